/-
  GvtNone's closed facts.
  No conditions.
-/
import Derived.Test.YtlkbahknmbgjmaaGreatHj
namespace Go.Proofs.YtlkbahknmbgjmaaGreat
open Go

theorem gvt_k1 : Rows.gvtNoneRow.inPlace = Tryz.pinned.checked.prog.inPlace 5 := eq_of_beq (by kernel_rfl)
theorem gvt_k2 : Rows.gvtNoneRow.unfollowed = Tryz.pinned.checked.prog.unfollowed 5 := eq_of_beq (by kernel_rfl)
theorem gvt_k3 : Rows.gvtNoneRow.recurses = Tryz.pinned.checked.prog.recurses 5 := eq_of_beq (by kernel_rfl)
theorem gvt_k4 : Rows.gvtNoneRow.named = Tryz.pinned.checked.prog.varsNamed 5 := eq_of_beq (by kernel_rfl)

end Go.Proofs.YtlkbahknmbgjmaaGreat
