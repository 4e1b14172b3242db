/-
  GvtNone: without a flight, and with a nil worker, nothing is told: of every input.
  No conditions.
-/
import Derived.Test.YtlkbahknmbgjmaaGreatFi
import Derived.Test.YtlkbahknmbgjmaaGreatHl
import Derived.Test.YtlkbahknmbgjmaaGreatHg
namespace Go.Proofs.YtlkbahknmbgjmaaGreat
open Go.ChangeShapes Go.WideShapes Go.ChangeAt Go.RowKit Go.Deep

theorem gvt_none : Rows.GvtNoneSaid :=
  OpenClaim.holds_of_wide 5 Tryz.f5 rfl rfl rfl rfl rfl rfl rfl ⟨rfl, rfl, rfl, rfl, rfl⟩ rfl rfl rfl rfl rfl (by kernel_rfl) Tryz.func5 gvt_joined
    (of_decide_eq_true (by kernel_rfl)) (by unfold Func.isWrapper; first | (rw [if_pos (by decide +kernel)]; kernel_rfl) | (rw [if_neg (by decide +kernel)]; exact ⟨rfl, rfl⟩))
    (fun os started H enc _ => gvtNone_lifted Ev.gvt_calls os started H enc)

#print axioms gvt_none
end Go.Proofs.YtlkbahknmbgjmaaGreat
