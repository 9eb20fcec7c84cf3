/- Paths and proofs in plain terms: P4, P6; they fit P5, P7. No program is used. -/
import Derived.Test.YtefccfakhgdfbaaDoorTreePlain
import Derived.Test.YtefccfakhgdfbaaDoorRootsPlain
namespace Go.Proofs.YtefccfakhgdfbaaDoor
open Go.RowKit
/-- P4: the path of entry i, by the tree (fuel: no fewer than there are entries). -/
def pathF : Nat → List (List UInt8) → Nat → List Hsh
  | 0, _, _ => []
  | f + 1, l, i => if l.length ≤ 1 then [] else if i < below l.length then pathF f (l.take (below l.length)) i ++ [rootOf (l.drop (below l.length))]
      else pathF f (l.drop (below l.length)) (i - below l.length) ++ [rootOf (l.take (below l.length))]
def pathOf (l : List (List UInt8)) (i : Nat) : List Hsh := pathF l.length l i
/-- P6: the hashes of the proof that the first m are a beginning. -/
def partF : Nat → Nat → List (List UInt8) → Bool → List Hsh
  | 0, _, _, _ => []
  | f + 1, m, l, whole => if m = l.length then (if whole then [] else [rootOf l]) else if m ≤ below l.length then partF f m (l.take (below l.length)) whole ++ [rootOf (l.drop (below l.length))]
      else partF f (m - below l.length) (l.drop (below l.length)) false ++ [rootOf (l.take (below l.length))]
def partOf (m : Nat) (l : List (List UInt8)) (whole : Bool) : List Hsh := partF l.length m l whole
theorem pathF_more : ∀ (f g : Nat) (l : List (List UInt8)) (i : Nat), l.length ≤ f → l.length ≤ g → pathF f l i = pathF g l i
  | 0, 0, _, _, _, _ => rfl
  | 0, g + 1, l, i, h, _ => by
    have : l.length = 0 := by omega
    simp [pathF, this]
  | f + 1, 0, l, i, _, h => by
    have : l.length = 0 := by omega
    simp [pathF, this]
  | f + 1, g + 1, l, i, h1, h2 => by
    simp only [pathF]
    split
    · rfl
    · have hb := below_lt (n := l.length) (by omega)
      rw [pathF_more f g _ i (by simp; omega) (by simp; omega), pathF_more f g (l.drop _) _ (by simp; omega) (by simp; omega)]
theorem partF_more : ∀ (f g m : Nat) (l : List (List UInt8)) (b : Bool), 1 ≤ m → m ≤ l.length → l.length ≤ f → l.length ≤ g → partF f m l b = partF g m l b
  | 0, _, _, l, _, h0, _, h, _ => by omega
  | f + 1, 0, _, l, _, h0, _, _, h => by omega
  | f + 1, g + 1, m, l, b, h0, hm, h1, h2 => by
    simp only [partF]
    split
    · rfl
    · have hb := below_lt (n := l.length) (by omega)
      split
      · rw [partF_more f g m _ b h0 (by simp; omega) (by simp; omega) (by simp; omega)]
      · rw [partF_more f g _ (l.drop _) _ (by omega) (by simp; omega) (by simp; omega) (by simp; omega)]
theorem pathF_len : ∀ (f : Nat) (l : List (List UInt8)) (i : Nat), (pathF f l i).length ≤ f
  | 0, _, _ => Nat.le_refl _
  | f + 1, l, i => by
    simp only [pathF]
    split
    · simp
    · split
      · have := pathF_len f (l.take (below l.length)) i; simp; omega
      · have := pathF_len f (l.drop (below l.length)) (i - below l.length); simp; omega
theorem partF_len : ∀ (f m : Nat) (l : List (List UInt8)) (b : Bool), (partF f m l b).length ≤ f
  | 0, _, _, _ => Nat.le_refl _
  | f + 1, m, l, b => by
    simp only [partF]
    split
    · split <;> simp
    · split
      · have := partF_len f m (l.take (below l.length)) b; simp; omega
      · have := partF_len f (m - below l.length) (l.drop (below l.length)) false; simp; omega
theorem pathOf_len (l : List (List UInt8)) (i : Nat) : (pathOf l i).length ≤ l.length := pathF_len _ _ _
theorem partOf_len (m : Nat) (l : List (List UInt8)) (b : Bool) : (partOf m l b).length ≤ l.length := partF_len _ _ _ _
theorem pathOf_one {l : List (List UInt8)} (h : l.length ≤ 1) (i : Nat) : pathOf l i = [] := by
  unfold pathOf
  rcases Nat.lt_or_ge 0 l.length with h0 | h0
  · obtain ⟨n, hn⟩ : ∃ n, l.length = n + 1 := ⟨l.length - 1, by omega⟩
    rw [hn]; simp only [pathF]; rw [if_pos h]
  · rw [show l.length = 0 by omega]; rfl
theorem pathOf_more {l : List (List UInt8)} (h : 2 ≤ l.length) (i : Nat) : pathOf l i = if i < below l.length then pathOf (l.take (below l.length)) i ++ [rootOf (l.drop (below l.length))]
      else pathOf (l.drop (below l.length)) (i - below l.length) ++ [rootOf (l.take (below l.length))] := by
  unfold pathOf
  have hb := below_lt h
  obtain ⟨n, hn⟩ : ∃ n, l.length = n + 1 := ⟨l.length - 1, by omega⟩
  rw [hn]
  simp only [pathF]
  rw [if_neg (by omega), hn]
  rw [hn] at hb
  rw [pathF_more n _ (l.take _) i (by simp; omega) (Nat.le_refl _), pathF_more n _ (l.drop _) _ (by simp; omega) (Nat.le_refl _)]
theorem partOf_all (l : List (List UInt8)) (b : Bool) (h : 1 ≤ l.length) : partOf l.length l b = if b then [] else [rootOf l] := by
  unfold partOf
  obtain ⟨n, hn⟩ : ∃ n, l.length = n + 1 := ⟨l.length - 1, by omega⟩
  rw [hn]
  simp only [partF]
  rw [if_pos hn.symm]
theorem partOf_more {l : List (List UInt8)} {m : Nat} (h1 : 1 ≤ m) (h : m < l.length) (b : Bool) : partOf m l b = if m ≤ below l.length then partOf m (l.take (below l.length)) b ++ [rootOf (l.drop (below l.length))]
      else partOf (m - below l.length) (l.drop (below l.length)) false ++ [rootOf (l.take (below l.length))] := by
  unfold partOf
  have hb := below_lt (n := l.length) (by omega)
  obtain ⟨n, hn⟩ : ∃ n, l.length = n + 1 := ⟨l.length - 1, by omega⟩
  rw [hn]
  simp only [partF]
  rw [if_neg (by omega), hn]
  rw [hn] at hb
  split
  · rw [partF_more n _ m (l.take _) b h1 (by simp; omega) (by simp; omega) (Nat.le_refl _)]
  · rw [partF_more n _ _ (l.drop _) _ (by omega) (by simp; omega) (by simp; omega) (Nat.le_refl _)]
/-- The ranges of merkle.Path's loop, the first one first (fuel: no fewer than to - from). -/
def pathR : Nat → Nat → Nat → Nat → List (Nat × Nat)
  | 0, _, _, _ => []
  | f + 1, a, b, i => if b - a ≤ 1 then [] else if i < a + below (b - a) then (a + below (b - a), b) :: pathR f a (a + below (b - a)) i else (a, a + below (b - a)) :: pathR f (a + below (b - a)) b i
/-- The ranges of merkle.Proof's loop, and where it ends. -/
def partR : Nat → Nat → Nat → Nat → List (Nat × Nat)
  | 0, _, _, _ => []
  | f + 1, a, b, m => if b ≤ m then (if 0 < a then [(a, b)] else []) else if m ≤ a + below (b - a) then (a + below (b - a), b) :: partR f a (a + below (b - a)) m else (a, a + below (b - a)) :: partR f (a + below (b - a)) b m
def part (l : List (List UInt8)) (a b : Nat) : List (List UInt8) := (l.drop a).take (b - a)
theorem part_len {l : List (List UInt8)} {a b : Nat} (hb : b ≤ l.length) : (part l a b).length = b - a := by
  unfold part; rw [List.length_take, List.length_drop]; omega
theorem part_take {l : List (List UInt8)} {a b k : Nat} (hk : a + k ≤ b) : (part l a b).take k = part l a (a + k) := by
  unfold part; rw [List.take_take]; congr 1; omega
theorem part_drop {l : List (List UInt8)} {a b k : Nat} : (part l a b).drop k = part l (a + k) b := by
  unfold part; rw [List.drop_take, List.drop_drop]; congr 1; omega
theorem pathR_eq (l : List (List UInt8)) : ∀ (f a b i : Nat), b - a ≤ f → a ≤ i → i < b → b ≤ l.length → (pathR f a b i).reverse.map (fun x => rootOf (part l x.1 x.2)) = pathOf (part l a b) (i - a)
  | 0, a, b, i, h, h1, h2, _ => by omega
  | f + 1, a, b, i, h, h1, h2, h3 => by
    have hl := part_len (l := l) (a := a) h3
    simp only [pathR]
    by_cases h4 : b - a ≤ 1
    · rw [if_pos h4, pathOf_one (by omega)]; rfl
    · rw [if_neg h4, pathOf_more (by omega), hl]
      have hb := below_lt (n := b - a) (by omega)
      by_cases h5 : i < a + below (b - a)
      · rw [if_pos h5, if_pos (by omega), List.reverse_cons, List.map_append, pathR_eq l f a _ i (by omega) h1 h5 (by omega), part_take (by omega), part_drop]
        rfl
      · rw [if_neg h5, if_neg (by omega), List.reverse_cons, List.map_append, pathR_eq l f _ b i (by omega) (by omega) h2 h3, part_take (by omega), part_drop]
        rw [show i - (a + below (b - a)) = i - a - below (b - a) by omega]
        rfl
theorem partR_eq (l : List (List UInt8)) : ∀ (f a b m : Nat), b - a ≤ f → a < m → m ≤ b → b ≤ l.length → (partR f a b m).reverse.map (fun x => rootOf (part l x.1 x.2)) = partOf (m - a) (part l a b) (a == 0)
  | 0, a, b, m, h, h1, h2, _ => by omega
  | f + 1, a, b, m, h, h1, h2, h3 => by
    have hl := part_len (l := l) (a := a) h3
    simp only [partR]
    by_cases h4 : b ≤ m
    · obtain rfl : b = m := by omega
      have := partOf_all (part l a b) (a == 0) (by omega)
      rw [hl] at this
      rw [if_pos h4, this]
      rcases Nat.eq_zero_or_pos a with rfl | h0
      · simp
      · have : (a == 0) = false := by simp; omega
        simp [this, h0]
    · have hb := below_lt (n := b - a) (by omega)
      rw [if_neg h4, partOf_more (by omega) (by omega), hl]
      by_cases h5 : m ≤ a + below (b - a)
      · rw [if_pos h5, if_pos (by omega), List.reverse_cons, List.map_append, partR_eq l f a _ m (by omega) h1 h5 (by omega), part_take (by omega), part_drop]
        rfl
      · rw [if_neg h5, if_neg (by omega), List.reverse_cons, List.map_append, partR_eq l f _ b m (by omega) (by omega) h2 h3, part_take (by omega), part_drop]
        rw [show m - (a + below (b - a)) = m - a - below (b - a) by omega, show (a + below (b - a) == 0) = false by simp; omega]
        rfl
theorem pathR_mem : ∀ (f a b i : Nat), b - a ≤ f → a ≤ i → i < b → ∀ x ∈ pathR f a b i, x.1 < x.2 ∧ x.2 ≤ b
  | 0, a, b, i, h, h1, h2, x, hx => by simp [pathR] at hx
  | f + 1, a, b, i, h, h1, h2, x, hx => by
    simp only [pathR] at hx
    split at hx
    · simp at hx
    · have hb := below_lt (n := b - a) (by omega)
      split at hx
      · rcases List.mem_cons.1 hx with rfl | hx
        · exact ⟨by show a + below (b - a) < b; omega, Nat.le_refl _⟩
        · have := pathR_mem f a _ i (by omega) h1 (by assumption) x hx
          exact ⟨this.1, by omega⟩
      · rcases List.mem_cons.1 hx with rfl | hx
        · exact ⟨by show a < a + below (b - a); omega, by show a + below (b - a) ≤ b; omega⟩
        · exact pathR_mem f _ b i (by omega) (by omega) h2 x hx
theorem partR_mem : ∀ (f a b m : Nat), b - a ≤ f → a < m → m ≤ b → ∀ x ∈ partR f a b m, x.1 < x.2 ∧ x.2 ≤ b
  | 0, a, b, m, h, h1, h2, x, hx => by simp [partR] at hx
  | f + 1, a, b, m, h, h1, h2, x, hx => by
    simp only [partR] at hx
    split at hx
    · split at hx
      · simp at hx; subst hx; exact ⟨by show a < b; omega, Nat.le_refl _⟩
      · simp at hx
    · have hb := below_lt (n := b - a) (by omega)
      split at hx
      · rcases List.mem_cons.1 hx with rfl | hx
        · exact ⟨by show a + below (b - a) < b; omega, Nat.le_refl _⟩
        · have := partR_mem f a _ m (by omega) h1 (by assumption) x hx
          exact ⟨this.1, by omega⟩
      · rcases List.mem_cons.1 hx with rfl | hx
        · exact ⟨by show a < a + below (b - a); omega, by show a + below (b - a) ≤ b; omega⟩
        · exact partR_mem f _ b m (by omega) (by omega) h2 x hx
/-! Proofs fit: P4 and P5, P6 and P7. -/
theorem rebuildp_nil (leaf : Hsh) (i n : Nat) : rebuild leaf i n [] = if n = 1 then some leaf else none := by simp [rebuild, rebuildR]
theorem rebuildp_snoc (leaf last : Hsh) (i n : Nat) (q : List Hsh) : rebuild leaf i n (q ++ [last]) = if n = 1 then none else if i < below n then (rebuild leaf i (below n) q).map (nodeH · last) else (rebuild leaf (i - below n) (n - below n) q).map (nodeH last ·) := by
  unfold rebuild below
  rw [List.reverse_append]
  rfl
theorem rebuild_path : ∀ (f : Nat) (l : List (List UInt8)) (i : Nat), l.length ≤ f → i < l.length → rebuild (leafH (l.getD i [])) i l.length (pathOf l i) = some (rootOf l)
  | 0, l, i, h1, h => by omega
  | f + 1, l, i, h1, h => by
    by_cases h2 : 2 ≤ l.length
    · have hb := below_lt h2
      rw [pathOf_more h2, rootOf_more h2]
      by_cases h3 : i < below l.length
      · rw [if_pos h3, rebuildp_snoc, if_neg (by omega), if_pos h3]
        have := rebuild_path f (l.take (below l.length)) i (by simp; omega) (by simp; omega)
        have he : (l.take (below l.length)).getD i [] = l.getD i [] := by simp [List.getD_eq_getElem?_getD, h3]
        rw [he, List.length_take, Nat.min_eq_left (by omega)] at this
        rw [this]; rfl
      · rw [if_neg h3, rebuildp_snoc, if_neg (by omega), if_neg h3]
        have := rebuild_path f (l.drop (below l.length)) (i - below l.length) (by simp; omega) (by simp; omega)
        have he : (l.drop (below l.length)).getD (i - below l.length) [] = l.getD i [] := by
          rw [List.getD_eq_getElem?_getD, List.getD_eq_getElem?_getD, List.getElem?_drop]; congr 2; omega
        rw [he, List.length_drop] at this
        rw [this]; rfl
    · obtain ⟨e, rfl⟩ : ∃ e, l = [e] := List.length_eq_one_iff.1 (by omega)
      simp only [List.length_cons, List.length_nil] at h
      obtain rfl : i = 0 := by omega
      rfl
/-- How many hashes fit: a list that rebuilds something has the length of any other that does. -/
theorem rebuild_len : ∀ (N : Nat) (x y : Hsh) (i n : Nat) (p q : List Hsh), p.length ≤ N → (rebuild x i n p).isSome → (rebuild y i n q).isSome → p.length = q.length := by
  intro N
  induction N with
  | zero =>
    intro x y i n p q hp h1 h2
    obtain rfl : p = [] := List.eq_nil_of_length_eq_zero (by omega)
    rw [rebuildp_nil] at h1
    split at h1
    · rename_i hn
      subst hn
      rcases List.eq_nil_or_concat q with rfl | ⟨q, r, rfl⟩
      · rfl
      · rw [List.concat_eq_append, rebuildp_snoc, if_pos rfl] at h2; simp at h2
    · simp at h1
  | succ N ih =>
    intro x y i n p q hp h1 h2
    rcases List.eq_nil_or_concat p with rfl | ⟨p, a, rfl⟩
    · rcases List.eq_nil_or_concat q with rfl | ⟨q, r, rfl⟩
      · rfl
      · rw [List.concat_eq_append, rebuildp_snoc] at h2
        rw [rebuildp_nil] at h1
        by_cases hn : n = 1
        · rw [if_pos hn] at h2; simp at h2
        · rw [if_neg hn] at h1; simp at h1
    · rcases List.eq_nil_or_concat q with rfl | ⟨q, r, rfl⟩
      · rw [List.concat_eq_append, rebuildp_snoc] at h1
        rw [rebuildp_nil] at h2
        by_cases hn : n = 1
        · rw [if_pos hn] at h1; simp at h1
        · rw [if_neg hn] at h2; simp at h2
      · rw [List.concat_eq_append, rebuildp_snoc] at h1 h2
        simp only [List.concat_eq_append, List.length_append, List.length_cons, List.length_nil] at hp ⊢
        by_cases hn : n = 1
        · rw [if_pos hn] at h1; simp at h1
        · rw [if_neg hn] at h1 h2
          by_cases hi : i < below n
          · rw [if_pos hi, Option.isSome_map] at h1 h2
            rw [ih x y _ _ p q (by omega) h1 h2]
          · rw [if_neg hi, Option.isSome_map] at h1 h2
            rw [ih x y _ _ p q (by omega) h1 h2]
theorem roots_part : ∀ (f : Nat) (l : List (List UInt8)) (m : Nat) (b : Bool), l.length ≤ f → l.length < 9223372036854775808 → 1 ≤ m → m ≤ l.length → roots m l.length (if b then some (rootOf (l.take m)) else none) (partOf m l b) = some (rootOf (l.take m), rootOf l)
  | 0, l, m, b, h1, hx, h, h2 => by omega
  | f + 1, l, m, b, h1, hx, h, h2 => by
    rcases Nat.lt_or_ge m l.length with hlt | hge
    · have hb := below_lt (n := l.length) (by omega)
      rw [partOf_more h hlt, rootOf_more (l := l) (by omega)]
      by_cases h3 : m ≤ below l.length
      · rw [if_pos h3, rootsp_snoc, if_neg (by omega), if_pos h3]
        have := roots_part f (l.take (below l.length)) m b (by simp; omega) (by simp; omega) h (by simp; omega)
        rw [List.take_take, List.length_take, Nat.min_eq_left h3, Nat.min_eq_left (by omega : below l.length ≤ l.length)] at this
        rw [this]; rfl
      · rw [if_neg h3, rootsp_snoc, if_neg (by omega), if_neg h3]
        have := roots_part f (l.drop (below l.length)) (m - below l.length) false (by simp; omega) (by simp; omega) (by omega) (by simp; omega)
        rw [List.length_drop] at this
        simp only [Bool.false_eq_true, if_false] at this
        rw [this]
        have e1 : rootOf (l.take m) = nodeH (rootOf (l.take (below l.length))) (rootOf ((l.drop (below l.length)).take (m - below l.length))) := by
          have hlm : (l.take m).length = m := by simp; omega
          have hbm : below m = below l.length := by
            obtain ⟨e, he, _, h6, h7⟩ := bl_bd (n := l.length) (by omega) hx
            have hbl : below l.length = 2 ^ e := by unfold below; rw [he, Nat.add_sub_cancel]
            rw [hbl] at h3 ⊢
            exact below_uniq (by omega) (by omega) (by omega) (by omega)
          rw [rootOf_more (by omega), hlm, hbm, List.take_take, Nat.min_eq_left (by omega), List.drop_take]
        rw [e1]; rfl
    · obtain rfl : m = l.length := by omega
      rw [partOf_all l b h, List.take_of_length_le (Nat.le_refl _)]
      cases b
      · simp only [Bool.false_eq_true, if_false]; rw [rootsp_one]
      · simp only [if_true]; rw [rootsp_whole]; rfl
theorem roots_len : ∀ (N : Nat) (x y : Option Hsh) (m n : Nat) (p q : List Hsh), x.isSome = y.isSome → p.length ≤ N → (roots m n x p).isSome → (roots m n y q).isSome → p.length = q.length := by
  intro N
  induction N with
  | zero =>
    intro x y m n p q hxy hp h1 h2
    obtain rfl : p = [] := List.eq_nil_of_length_eq_zero (by omega)
    rw [rootsp_nil] at h1
    split at h1
    · rename_i hn
      rcases List.eq_nil_or_concat q with rfl | ⟨q, r, rfl⟩
      · rfl
      · rw [List.concat_eq_append, rootsp_snoc, if_pos hn] at h2
        cases x <;> cases y <;> simp at h1 h2 hxy
    · simp at h1
  | succ N ih =>
    intro x y m n p q hxy hp h1 h2
    rcases List.eq_nil_or_concat p with rfl | ⟨p, a, rfl⟩
    · rcases List.eq_nil_or_concat q with rfl | ⟨q, r, rfl⟩
      · rfl
      · rw [List.concat_eq_append, rootsp_snoc] at h2
        rw [rootsp_nil] at h1
        by_cases hn : m = n
        · rw [if_pos hn] at h1 h2
          cases x <;> cases y <;> simp at h1 h2 hxy
        · rw [if_neg hn] at h1; simp at h1
    · rcases List.eq_nil_or_concat q with rfl | ⟨q, r, rfl⟩
      · rw [List.concat_eq_append, rootsp_snoc] at h1
        rw [rootsp_nil] at h2
        by_cases hn : m = n
        · rw [if_pos hn] at h1 h2
          cases x <;> cases y <;> simp at h1 h2 hxy
        · rw [if_neg hn] at h2; simp at h2
      · rw [List.concat_eq_append, rootsp_snoc] at h1 h2
        simp only [List.concat_eq_append, List.length_append, List.length_cons, List.length_nil] at hp ⊢
        by_cases hn : m = n
        · rw [if_pos hn] at h1 h2
          cases x <;> cases y <;> simp at h1 h2 hxy
          simp [h1, h2]
        · rw [if_neg hn] at h1 h2
          by_cases hi : m ≤ below n
          · rw [if_pos hi, Option.isSome_map] at h1 h2
            rw [ih x y _ _ p q hxy (by omega) h1 h2]
          · rw [if_neg hi, Option.isSome_map] at h1 h2
            rw [ih none none _ _ p q rfl (by omega) h1 h2]
end Go.Proofs.YtefccfakhgdfbaaDoor
