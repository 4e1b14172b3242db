/-
  The law of one struct of four, from what the call comes to.
  No conditions.
-/
import Derived.Test.YtlkbahknmbgjmaaGreatRows
import Derived.Test.YtlkbahknmbgjmaaGreatFh
import Derived.Deep.Slices
import Derived.Deep.Fields
import Derived.Lib.SmallJoins
import Derived.ProofKit
namespace Go.Proofs.YtlkbahknmbgjmaaGreat
open Go.ChangeShapes Go.WideShapes Go.ChangeAt Go.RowKit Go.Deep

theorem own6 : ownKnob Tryz.prog.godebug = none := by kernel_rfl
theorem laidOut6 : laidOutB Tryz.prog = true := by kernel_rfl

theorem cell_float {H : Type} {enc : TypeId × Value → H} {P : Program} {w : World} {base : Nat} {spare : Nat → Bool} {held : Bool} {t : TypeId} {fuel : Nat} {v : Value} {y : DataW H × List MemPlace} {k : FloatKind} (ht : P.underlying t = some (.float k))
    (h : DataW.trod enc P w base spare held fuel t [v] = some y) : v.oneCell' = true ∧ y.2 = [] := by
  cases fuel with
  | zero => simp [DataW.trod] at h
  | succ n =>
    unfold DataW.trod at h
    rw [ht] at h
    cases v <;> simp at h
    obtain ⟨_, rfl⟩ := h
    exact ⟨rfl, rfl⟩

set_option maxHeartbeats 800000 in
set_option maxRecDepth 100000 in
theorem fossilNone_lifted (H0 : ∀ (v0 v1 v2 v3 : Value), v0.oneCell' = true → v1.oneCell' = true → v2.oneCell' = true → v3.oneCell' = true → ∀ w : World, Calls Tryz.prog 6 #[.agg #[v0, v1, v2, v3]] w fun e w' => e = .returned (.bool true) ∧ RowKit.Below w.heap.size w w')
    (os : Os) (started : os.Started) (H : Type) (enc : TypeId × Value → H) :
    ReturnsInHanded {} Tryz.checked os 6 .any (Rows.fossilNoneSpec.pre6 enc Tryz.prog Tryz.f6 Rows.fossilNoneRow.domain false) (Rows.fossilNoneSpec.post enc Tryz.prog Tryz.f6 false true false false) := by
  refine returnsInHanded_of_change (C := Tryz.checked) own6 started (by kernel_rfl) Tryz.func6
    (ChangeSpec.witness6 (enc := enc) (C := Tryz.checked) false ⟨#[], #[.agg #[.float .f64 0, .bool false, .int .i64 0, .int .i64 0]], []⟩ 8 (by kernel_rfl) (by kernel_rfl) (by kernel_rfl) (by kernel_rfl)) ?_
  intro W base args ds gs before hval0 hW _ _
  have hval : ∀ (j : Nat) t v, Tryz.f6.params[j]? = some t → args[j]? = some v → Value.okWide Tryz.prog W .any base t v := hval0
  have hW' := hW
  obtain ⟨p, q, hA0, hV, rfl, _, _⟩ := hW
  have hA : DataW.TrodAll enc Tryz.prog W 0 (fun _ => true) true Tryz.f6.params.toList args.toList ds p := hA0
  rw [Tryz.params6] at hA hval
  obtain ⟨v0, d0, rfl, rfl, h0⟩ := trodAll_one hA
  obtain ⟨rfl, rfl⟩ := trodVars_none hV
  have h0k := h0
  obtain ⟨x0, x1, x2, x3, y0, y1, y2, y3, n, rfl, rfl, rfl, e0, e1, e2, e3⟩ := Joins.open_agg4 Tryz.underlying89 (by kernel_rfl) (by kernel_rfl) (hval 0 89 v0 rfl rfl) h0
  obtain ⟨c0, p0⟩ := cell_float Tryz.underlying22 e0
  obtain ⟨b1, hb1, p1⟩ := DataW.trod_bool Tryz.underlying4 e1
  obtain ⟨n2, hn2, p2, _⟩ := DataW.trod_int Tryz.underlying3 e2
  obtain ⟨n3, hn3, p3, _⟩ := DataW.trod_int Tryz.underlying3 e3
  clear hA0 hval0
  simp only [List.append_nil] at hW'
  refine (H0 x0 x1 x2 x3 c0 (by cases hb1; rfl) (by cases hn2; rfl) (by cases hn3; rfl) W).mono fun e W' ⟨he, hb⟩ => ?_
  subst he
  exact ⟨_, rfl, _, _, _, [], _, [], hW', trodAll_mk1 (shut_bool Tryz.underlying4 _),
    trodAll_mk1 (Below.trod laidOut6 (by kernel_rfl) (of_decide_eq_true (by kernel_rfl)) h0k hb (fun y hy => by simp [p0, p1, p2, p3] at hy)),
    rfl, hb.frame _, fun h => by cases h⟩

end Go.Proofs.YtlkbahknmbgjmaaGreat
