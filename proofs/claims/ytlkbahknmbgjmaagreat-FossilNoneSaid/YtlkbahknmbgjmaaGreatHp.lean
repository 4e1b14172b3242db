/-
  FossilNone's closed facts, the rest.
  No conditions.
-/
import Derived.Test.YtlkbahknmbgjmaaGreatHo
namespace Go.Proofs.YtlkbahknmbgjmaaGreat
open Go

theorem fossil_joined : joinedFacts Tryz.pinned.checked.prog 6 Tryz.f6 Rows.fossilNoneSpec Rows.fossilNoneRow = true :=
  joined_of fossil_k1 fossil_k2 fossil_k3 fossil_k4 (by kernel_rfl) (by kernel_rfl) (by kernel_rfl) (by kernel_rfl) (by kernel_rfl) (by kernel_rfl)

end Go.Proofs.YtlkbahknmbgjmaaGreat
