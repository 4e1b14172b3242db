/-
  GvtNone's closed facts, the rest.
  No conditions.
-/
import Derived.Test.YtlkbahknmbgjmaaGreatHk
namespace Go.Proofs.YtlkbahknmbgjmaaGreat
open Go

theorem gvt_joined : joinedFacts Tryz.pinned.checked.prog 5 Tryz.f5 Rows.gvtNoneSpec Rows.gvtNoneRow = true :=
  joined_of gvt_k1 gvt_k2 gvt_k3 gvt_k4 (by kernel_rfl) (by kernel_rfl) (by kernel_rfl) (by kernel_rfl) (by kernel_rfl) (by kernel_rfl)

end Go.Proofs.YtlkbahknmbgjmaaGreat
