/-
  vm's deferred closure does nothing as long as nothing goes wrong.
  No conditions.
-/
import Derived.Test.YtlkbahknmbgjmaaGreatEz
import Derived.Test.YtlkbahknmbgjmaaGreatProg
import Derived.Recover
import Derived.RowKit
import Derived.Below
namespace Go.Proofs.YtlkbahknmbgjmaaGreat.Ev
open Go Go.RowKit

set_option maxRecDepth 100000 in
theorem all1_idle (p : Value) (w : World) :
    CallsD Tryz.prog 292 #[p] .returning w fun e u' w' => e = .returned (.tuple #[]) ∧ u' = .returning ∧ w' = w := by
  refine callsD_of_wpS Tryz.func292 rfl fun c₀ cs hu => ?_
  apply wpS_seq
  apply wpS_region
  simp [wpOpsS, go_sem, recoverD, hu, Tryz.ntmps292, Exit.thenS]
  refine wpS_of_wp (wp_block ?_)
  have hnn : ∀ w : World, (binOp BinOp.eql 20 .nilIface .nilIface).run Tryz.prog w = .ok (.bool true) w := fun _ => by kernel_rfl
  apply wp_seq
  apply wp_region_lit
  simp [wpList, go_sem, hnn, Oper.wp, Exit.then]
  refine .inl (wp_cond_true ?_ ?_)
  · simp [Act.eval]
  apply wp_region_lit
  simp [wpList, go_sem, Oper.wp, Exit.then, Exit.inBlock]
  refine .inl ?_
  cases c₀
  simp_all [bodyPostS, results, Tryz.results292]

theorem harm292 : Harm Tryz.prog 292 := fun v w =>
  ⟨MuLone.run_callFunc_enter Tryz.func292 (by kernel_rfl) rfl #[v] w, (all1_idle v w).mono fun e u w' ⟨h1, h2, h3⟩ => ⟨⟨_, h1⟩, h2, h3⟩⟩

end Go.Proofs.YtlkbahknmbgjmaaGreat.Ev
