/-
  FossilNone: without a store, with a nil worker, and at no time, nothing is written: of every input.
  No conditions.
-/
import Derived.Test.YtlkbahknmbgjmaaGreatHq
import Derived.Test.YtlkbahknmbgjmaaGreatHp
import Derived.Test.YtlkbahknmbgjmaaGreatHn
namespace Go.Proofs.YtlkbahknmbgjmaaGreat
open Go.ChangeShapes Go.WideShapes Go.ChangeAt Go.RowKit Go.Deep

theorem fossil_none : Rows.FossilNoneSaid :=
  OpenClaim.holds_of_wide 6 Tryz.f6 rfl rfl rfl rfl rfl rfl rfl ⟨rfl, rfl, rfl, rfl, rfl⟩ rfl rfl rfl rfl rfl (by kernel_rfl) Tryz.func6 fossil_joined
    (of_decide_eq_true (by kernel_rfl)) (by unfold Func.isWrapper; first | (rw [if_pos (by decide +kernel)]; kernel_rfl) | (rw [if_neg (by decide +kernel)]; exact ⟨rfl, rfl⟩))
    (fun os started H enc _ => fossilNone_lifted Ev.fossil_calls os started H enc)

#print axioms fossil_none
end Go.Proofs.YtlkbahknmbgjmaaGreat
