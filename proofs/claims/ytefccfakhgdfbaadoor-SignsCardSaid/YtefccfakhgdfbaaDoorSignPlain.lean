/- Checkpoints in plain terms: P10; what is signed is read, and read alike. No program is used. -/
import Derived.Test.YtefccfakhgdfbaaDoorNamePlain
import Derived.Lib.Split
namespace Go.Proofs.YtefccfakhgdfbaaDoor
open Go.RowKit
/-- A hexadecimal digit, small. -/
def hexD (n : Nat) : UInt8 := if n < 10 then UInt8.ofNat (48 + n) else UInt8.ofNat (87 + n)
def hexOf (l : List UInt8) : List UInt8 := l.flatMap fun c => [hexD (c.toNat / 16), hexD (c.toNat % 16)]
theorem hexOf_cons (c : UInt8) (l : List UInt8) : hexOf (c :: l) = hexD (c.toNat / 16) :: hexD (c.toNat % 16) :: hexOf l := rfl
theorem hexOf_len (l : List UInt8) : (hexOf l).length = 2 * l.length := by
  induction l with
  | nil => rfl
  | cons c l ih => rw [hexOf_cons]; simp only [List.length_cons, ih]; omega
/-- "tiles\n". -/
def kTiles : List UInt8 := [116, 105, 108, 101, 115, 10]
def headOf (n : Nat) (h : Hsh) : List UInt8 := kTiles ++ dec n ++ [10] ++ hexOf h.toList ++ [10]
/-- P10: a checkpoint. -/
def signOf (n : Nat) (h : Hsh) (key : List UInt8) : List UInt8 := headOf n h ++ hexOf (hash (key ++ 0 :: headOf n h)).toList ++ [10]
/-- A small digit of 16, as unhex reads it. -/
def unhexR (c : UInt8) : Option Nat := if 48 ≤ c.toNat ∧ c.toNat ≤ 57 then some (c.toNat - 48) else if 97 ≤ c.toNat ∧ c.toNat ≤ 102 then some (c.toNat - 87) else none
/-- A digit of 16 of either kind, as ParseUint reads it. -/
def unhexG (c : UInt8) : Option Nat := if 48 ≤ c.toNat ∧ c.toNat ≤ 57 then some (c.toNat - 48) else if 97 ≤ c.toNat ∧ c.toNat ≤ 102 then some (c.toNat - 87) else if 65 ≤ c.toNat ∧ c.toNat ≤ 70 then some (c.toNat - 55) else none
def unhexL (d : UInt8 → Option Nat) : List UInt8 → Option (List UInt8)
  | a :: b :: r => match d a, d b with
    | some x, some y => (unhexL d r).map (UInt8.ofNat (16 * x + y) :: ·)
    | _, _ => none
  | _ => some []
theorem hexD_r (n : Nat) (h : n < 16) : unhexR (hexD n) = some n := by
  have : ∀ m : Fin 16, unhexR (hexD m.1) = some m.1 := by decide
  exact this ⟨n, h⟩
theorem hexD_g (n : Nat) (h : n < 16) : unhexG (hexD n) = some n := by
  have : ∀ m : Fin 16, unhexG (hexD m.1) = some m.1 := by decide
  exact this ⟨n, h⟩
theorem hexD_ne (n : Nat) (h : n < 16) : hexD n ≠ 10 := by
  have : ∀ m : Fin 16, hexD m.1 ≠ 10 := by decide
  exact this ⟨n, h⟩
theorem unhexL_hexOf (d : UInt8 → Option Nat) (hd : ∀ n, n < 16 → d (hexD n) = some n) : ∀ l : List UInt8, unhexL d (hexOf l) = some l
  | [] => rfl
  | c :: l => by
    have hc := c.toNat_lt
    rw [hexOf_cons]
    unfold unhexL
    rw [hd _ (by omega), hd _ (by omega), unhexL_hexOf d hd l]
    have : UInt8.ofNat (16 * (c.toNat / 16) + c.toNat % 16) = c := by
      rw [Nat.div_add_mod]; simp
    simp [this]
theorem hexOf_ne (l : List UInt8) : ∀ c ∈ hexOf l, c ≠ 10 := by
  intro c hc
  unfold hexOf at hc
  rw [List.mem_flatMap] at hc
  obtain ⟨x, _, hx⟩ := hc
  have hb := x.toNat_lt
  simp only [List.mem_cons, List.not_mem_nil, or_false] at hx
  rcases hx with rfl | rfl
  · exact hexD_ne _ (by omega)
  · exact hexD_ne _ (by omega)
theorem dec_ne10 (n : Nat) : ∀ c ∈ dec n, c ≠ 10 := by
  intro c hc e
  have := dec_dig n c hc
  subst e
  unfold isDig at this
  revert this
  decide
/-- Where a line ends. -/
theorem index_line : ∀ (a t : List UInt8), (∀ c ∈ a, c ≠ 10) → Lib.index (a ++ 10 :: t) [10] = a.length
  | [], t, _ => by simp [Lib.index, List.isPrefixOf]
  | c :: a, t, h => by
    have ih := index_line a t (fun c hc => h c (by simp [hc]))
    have hne : (10 : UInt8) ≠ c := fun e => h c (by simp) e.symm
    simp only [List.cons_append, Lib.index]
    rw [isPrefix_cons_ne hne, ih]
    have : ((a.length : Int) == -1) = false := by rw [beq_eq_false_iff_ne]; omega
    simp [this]
/-- A text cut at its line ends. -/
def linesOf (s : List UInt8) : List (List UInt8) := Lib.splitK [10] 0 (Lib.count s [10]) s
theorem linesOf_line (a t : List UInt8) (h : ∀ c ∈ a, c ≠ 10) : linesOf (a ++ 10 :: t) = a :: linesOf t := by
  have hi := index_line a t h
  unfold linesOf
  have hd : (a ++ 10 :: t).drop (a.length + [(10 : UInt8)].length) = t := by
    rw [show a ++ 10 :: t = (a ++ [10]) ++ t by simp, show a.length + [(10 : UInt8)].length = (a ++ [10]).length by simp, List.drop_left]
  rw [Lib.count_hit (by simp) hi, hd, Nat.add_comm, Lib.splitK, hi]
  rw [if_neg (by simp)]
  simp only [Int.toNat_natCast, Nat.add_zero]
  rw [hd]
  simp
theorem linesOf_nil : linesOf [] = [[]] := rfl
/-- A size, a root, and whether it is a checkpoint. -/
abbrev Three := Int × Hsh × Bool
def noThree : Three := (0, zero8, false)
def checkEnd (text key : List UInt8) (n : Int) (h : Hsh) : Three := if signOf n.toNat h key = text then (n, h, true) else noThree
/-- files.Check. -/
def checkLines (text key : List UInt8) : List (List UInt8) → Three
  | [_, l1, l2, _, _] => if l2.length ≠ 16 then noThree else match atoiO l1 with
    | none => noThree
    | some n => if n < 0 then noThree else match unhexL unhexG l2 with
      | none => noThree
      | some b => checkEnd text key n (eightOf b)
  | _ => noThree
def checkGo (text key : List UInt8) : Three := checkLines text key (linesOf text)
/-- The reference's Check. -/
def checkRef (text key : List UInt8) : Three :=
  if (beginsOf text kTiles).2 = true then
    (if (numberOf (beginsOf text kTiles).1).2.2 = true ∧ 17 ≤ (numberOf (beginsOf text kTiles).1).2.1.length then
      match unhexL unhexR (((numberOf (beginsOf text kTiles).1).2.1.drop 1).take 16) with
      | none => noThree
      | some b => checkEnd text key (numberOf (beginsOf text kTiles).1).1 (eightOf b)
     else noThree)
  else noThree
def CSound (text key : List UInt8) (q : Three) : Prop := (q.2.2 = true → 0 ≤ q.1 ∧ q.1 < 9223372036854775808 ∧ signOf q.1.toNat q.2.1 key = text) ∧ (q.2.2 = false → q = noThree)
theorem csound_no (text key : List UInt8) : CSound text key noThree := ⟨fun h => by simp [noThree] at h, fun _ => rfl⟩
theorem checkEnd_sound (text key : List UInt8) (n : Int) (h : Hsh) (h0 : 0 ≤ n) (h1 : n < 9223372036854775808) : CSound text key (checkEnd text key n h) := by
  unfold checkEnd
  split
  · rename_i e; exact ⟨fun _ => ⟨h0, h1, e⟩, fun h => by simp at h⟩
  · exact csound_no _ _
theorem checkGo_sound (text key : List UInt8) : CSound text key (checkGo text key) := by
  unfold checkGo
  generalize linesOf text = L
  unfold checkLines
  split
  · split
    · exact csound_no _ _
    · split
      · exact csound_no _ _
      · rename_i n hn
        split
        · exact csound_no _ _
        · split
          · exact csound_no _ _
          · exact checkEnd_sound _ _ _ _ (by omega) (atoiO_bd hn)
  · exact csound_no _ _
theorem checkRef_sound (text key : List UInt8) : CSound text key (checkRef text key) := by
  unfold checkRef
  split
  · split
    · split
      · exact csound_no _ _
      · have := numberOf_bd (beginsOf text kTiles).1
        exact checkEnd_sound _ _ _ _ (by omega) (by omega)
    · exact csound_no _ _
  · exact csound_no _ _
theorem eightOf_toList (h : Hsh) : eightOf h.toList = h := by
  apply Vector.ext
  intro i hi
  have : i = 0 ∨ i = 1 ∨ i = 2 ∨ i = 3 ∨ i = 4 ∨ i = 5 ∨ i = 6 ∨ i = 7 := by omega
  rcases this with rfl | rfl | rfl | rfl | rfl | rfl | rfl | rfl <;> simp [eightOf, List.getD]
theorem toList_len (h : Hsh) : h.toList.length = 8 := by simp
theorem signOf_lines (n : Nat) (h : Hsh) (key : List UInt8) : linesOf (signOf n h key) = [[116, 105, 108, 101, 115], dec n, hexOf h.toList, hexOf (hash (key ++ 0 :: headOf n h)).toList, []] := by
  unfold signOf
  generalize (hash (key ++ 0 :: headOf n h)) = m
  have e : headOf n h ++ hexOf m.toList ++ [10] = [116, 105, 108, 101, 115] ++ 10 :: (dec n ++ 10 :: (hexOf h.toList ++ 10 :: (hexOf m.toList ++ 10 :: []))) := by
    simp [headOf, kTiles]
  rw [e, linesOf_line _ _ (by decide), linesOf_line _ _ (dec_ne10 n), linesOf_line _ _ (hexOf_ne _), linesOf_line _ _ (hexOf_ne _), linesOf_nil]
theorem checkGo_sign (n : Nat) (h : Hsh) (key : List UInt8) (hn : n < 9223372036854775808) : checkGo (signOf n h key) key = ((n : Int), h, true) := by
  unfold checkGo
  rw [signOf_lines]
  have h16 : (hexOf h.toList).length = 16 := by rw [hexOf_len, toList_len]
  unfold checkLines
  simp only [h16, atoiO_dec n hn, unhexL_hexOf unhexG hexD_g, eightOf_toList]
  rw [if_neg (by simp), if_neg (by omega)]
  unfold checkEnd
  rw [if_pos (by simp)]
theorem checkRef_sign (n : Nat) (h : Hsh) (key : List UInt8) (hn : n < 9223372036854775808) : checkRef (signOf n h key) key = ((n : Int), h, true) := by
  obtain ⟨t, ht⟩ : ∃ t, signOf n h key = kTiles ++ (dec n ++ 10 :: (hexOf h.toList ++ t)) := ⟨10 :: (hexOf (hash (key ++ 0 :: headOf n h)).toList ++ [10]), by simp [signOf, headOf]⟩
  have hb := beginsOf_append kTiles (dec n ++ 10 :: (hexOf h.toList ++ t))
  have hnum := numberOf_dec n (10 :: (hexOf h.toList ++ t)) hn (by intro c hc; simp at hc; subst hc; unfold isDig; decide)
  have h16 : (hexOf h.toList).length = 16 := by rw [hexOf_len, toList_len]
  have htk : ((10 :: (hexOf h.toList ++ t)).drop 1).take 16 = hexOf h.toList := by
    rw [List.drop_succ_cons, List.drop_zero, ← h16, List.take_left]
  have hc : checkRef (kTiles ++ (dec n ++ 10 :: (hexOf h.toList ++ t))) key = checkEnd (kTiles ++ (dec n ++ 10 :: (hexOf h.toList ++ t))) key n h := by
    unfold checkRef
    rw [hb]
    simp only [if_true, hnum, htk, unhexL_hexOf unhexR hexD_r, eightOf_toList]
    rw [if_pos ⟨trivial, by simp [h16]⟩]
  rw [ht, hc, ← ht]
  unfold checkEnd
  rw [if_pos (by simp)]
theorem csound_uniq {text key : List UInt8} {q q' : Three} (h : CSound text key q) (h' : CSound text key q')
    (c : ∀ (n : Nat) (r : Hsh), n < 9223372036854775808 → signOf n r key = text → q = ((n : Int), r, true)) (c' : ∀ (n : Nat) (r : Hsh), n < 9223372036854775808 → signOf n r key = text → q' = ((n : Int), r, true)) : q = q' := by
  obtain ⟨n, r, b⟩ := q
  obtain ⟨n', r', b'⟩ := q'
  cases b
  · cases b'
    · exact (h.2 rfl).trans (h'.2 rfl).symm
    · obtain ⟨x, y, z⟩ := h'.1 rfl
      have := c n'.toNat r' (by simp only at y; omega) z
      simp at this
  · obtain ⟨x, y, z⟩ := h.1 rfl
    exact (c n.toNat r (by simp only at y; omega) z).trans (c' n.toNat r (by simp only at y; omega) z).symm
/-- P10: the two read alike. -/
theorem check_same (text key : List UInt8) : checkGo text key = checkRef text key :=
  csound_uniq (checkGo_sound text key) (checkRef_sound text key) (fun n r hn e => by rw [← e]; exact checkGo_sign n r key hn) (fun n r hn e => by rw [← e]; exact checkRef_sign n r key hn)
end Go.Proofs.YtefccfakhgdfbaaDoor
