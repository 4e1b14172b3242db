/-
  FossilNone's closed facts.
  No conditions.
-/
import Derived.Test.YtlkbahknmbgjmaaGreatHj
namespace Go.Proofs.YtlkbahknmbgjmaaGreat
open Go

theorem fossil_k1 : Rows.fossilNoneRow.inPlace = Tryz.pinned.checked.prog.inPlace 6 := eq_of_beq (by kernel_rfl)
theorem fossil_k2 : Rows.fossilNoneRow.unfollowed = Tryz.pinned.checked.prog.unfollowed 6 := eq_of_beq (by kernel_rfl)
theorem fossil_k3 : Rows.fossilNoneRow.recurses = Tryz.pinned.checked.prog.recurses 6 := eq_of_beq (by kernel_rfl)
theorem fossil_k4 : Rows.fossilNoneRow.named = Tryz.pinned.checked.prog.varsNamed 6 := eq_of_beq (by kernel_rfl)

end Go.Proofs.YtlkbahknmbgjmaaGreat
