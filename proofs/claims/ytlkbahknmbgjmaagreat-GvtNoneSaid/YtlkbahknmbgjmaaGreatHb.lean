/-
  awake() of chapter 28 is true.
  No conditions.
-/
import Derived.Test.YtlkbahknmbgjmaaGreatHa
namespace Go.Proofs.YtlkbahknmbgjmaaGreat.Ev
open Go

set_option maxRecDepth 1000000
theorem a29_0 : chk s0F 0 [] ((code Tryz.prog Tryz.f29.ntmps 100000 (hdC (bodyC Tryz.f29))).run ca0 (args [] 0 (F.all (.tup []))) h0) = true := by decide +kernel
theorem a29_1 : chk s1F s1N s1B ((code Tryz.prog Tryz.f29.ntmps 100000 (hdC (tlC (bodyC Tryz.f29)))).run ca0 (litF s0F) (litH 0 [])) = true := by decide +kernel
theorem a29_2 : chk s1F s1N s1B ((code Tryz.prog Tryz.f29.ntmps 100000 (hdC (tlC (tlC (bodyC Tryz.f29))))).run ca0 (litF s1F) (litH s1N s1B)) = true := by decide +kernel
theorem a29_3 : endsB Tryz.prog idle Tryz.f29 true ((code Tryz.prog Tryz.f29.ntmps 100000 (tlC (tlC (tlC (bodyC Tryz.f29))))).run ca0 (litF s1F) (litH s1N s1B)) = true := by decide +kernel

theorem nt29 : Tryz.f29.ntmps ≤ 250 := Nat.le_of_ble_eq_true (by kernel_rfl)
theorem closed29 : Closed Tryz.prog 29 true :=
  Closed.of_parts idle_ok Tryz.func29 (by kernel_rfl) (by kernel_rfl) nt29 fun _ _ fin _ _ s =>
    seq_part follows_ok ca0_ok nt29 100000 (by kernel_rfl) s a29_0 fun _ _ s =>
    seq_part follows_ok ca0_ok nt29 100000 (by kernel_rfl) s a29_1 fun _ _ s =>
    seq_part follows_ok ca0_ok nt29 100000 (by kernel_rfl) s a29_2 fun _ _ s =>
    last_part follows_ok ca0_ok nt29 100000 s a29_3 fin

end Go.Proofs.YtlkbahknmbgjmaaGreat.Ev
