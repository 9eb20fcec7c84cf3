/- What the numerals' functions read of the world, out of a row's laid variables and the world's shape. No walk. -/
import Derived.Test.YtefccfakhgdfbaaDoorSent
import Derived.Test.YtefccfakhgdfbaaDoorFName
import Derived.LaidSub
import Derived.Shelf.Vars
import Derived.Lib.LaidTab
namespace Go.Proofs.YtefccfakhgdfbaaDoor
open Go.RowKit
theorem env_of {W : World} {r r' : List (String × DataW Unit)} (h1 : laidMet Tryd.prog (("internal/strconv.uint64pow10", Rows.laid_internal_strconv_uint64pow10) :: r) W)
    (h2 : laidMet Tryd.prog (("strconv.ErrRange", Rows.laid_strconv_ErrRange) :: ("strconv.ErrSyntax", Rows.laid_strconv_ErrSyntax) :: r') W) (hsh : W.ShapedOpen Tryd.prog) : NumEnv W := by
  have htab : Lib.TabIs Tryd.prog W "internal/strconv.uint64pow10" .u64 Lib.pow10Tab := Lib.tabIs_of_head (g := 11) (t := 177) (by kernel_rfl) (by kernel_rfl) Tryd.underlying177 Tryd.underlying96 (by kernel_rfl) (by kernel_rfl) h1
  obtain ⟨a2, s2⟩ := sent_head (g := 9) h2 (by kernel_rfl) (by kernel_rfl)
  obtain ⟨a1, s1⟩ := sent_head (g := 8) h2.tail (by kernel_rfl) (by kernel_rfl)
  have hm := cell_of_shapedOpen_int (P := Tryd.prog) (g := 10) (t := 3) (zero := #[.int .i64 0]) hsh (of_decide_eq_true (by kernel_rfl)) (by kernel_rfl) rfl (by kernel_rfl) (by kernel_rfl) Tryd.underlying3
  exact ⟨htab, hm, ⟨_, s1.1, .inr ⟨_, _, rfl⟩⟩, ⟨_, s2.1, .inr ⟨_, _, rfl⟩⟩⟩
end Go.Proofs.YtefccfakhgdfbaaDoor
