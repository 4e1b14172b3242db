/-
  GvtNone comes to true.
  No conditions.
-/
import Derived.Test.YtlkbahknmbgjmaaGreatHb
namespace Go.Proofs.YtlkbahknmbgjmaaGreat.Ev
open Go Go.RowKit

set_option maxRecDepth 1000000
/-- A call hands back b. -/
theorem calls_of_run {P : Program} {g : FuncId} {fn : Func} {c : Code} {ca : Ca} {l : List AV} {b : Bool} (hca : CaOk P ca) (hf : P.funcs[g]? = some fn) (hname : (fn.name == "runtime.NumGoroutine") = false) (hb : fn.body = some c)
    (h : isRet (ca.call g l h0 (isB b)) = true) (args : List Value) (hv : VRs (fun _ => none) l args) (w : World) : Calls P g ⟨args⟩ w fun e w' => e = .returned (.bool b) ∧ Below w.heap.size w w' := by
  generalize ho : ca.call g l h0 (isB b) = o at h
  cases o with
  | ret fr h' =>
    obtain ⟨v, g', e, H⟩ := hca g l h0 _ _ ho (by simp)
    have H := H _ w args (Rel.start w) hv
    unfold CallWp at H
    rw [MuLone.run_callFunc_enter hf hname hb] at H
    refine H.mono fun e' t ⟨u, he, ν, s, hv⟩ => ⟨?_, s.nothing⟩
    rw [he]
    cases v with
    | bool d =>
      have e : bif? (.ret (F.all .top) h0) .no (d == b) = .ret fr h' := e
      obtain ⟨hb, _⟩ := bif_yes e (by simp)
      rw [eq_of_beq hb] at hv
      cases hv; rfl
    | _ => cases e
  | _ => cases h

noncomputable def prL28 : List (Nat × Fc) := (29, pYes true) :: prL
noncomputable def prF28 (f : FuncId) : Option Fc := pick f prL28
noncomputable def ca28 : Ca := calls Tryz.prog idle prF28 100000 300
theorem ca28_ok : CaOk Tryz.prog ca28 := calls_ok follows_ok idle_ok (prims_ok fun p hp => by
  unfold prL28 at hp
  rcases List.mem_cons.1 hp with h | h
  · rw [h]; show FcOk Tryz.prog 29 (pYes true); exact pYes_ok closed29
  · exact prL_ok p h) 100000 names_ok 300

theorem gvt_true : isRet (ca28.call 5 [.bool true] h0 (isB true)) = true := by decide +kernel
theorem gvt_false : isRet (ca28.call 5 [.bool false] h0 (isB true)) = true := by decide +kernel

theorem gvt_calls (b : Bool) (w : World) : Calls Tryz.prog 5 #[.bool b] w fun e w' => e = .returned (.bool true) ∧ Below w.heap.size w w' := by
  cases b with
  | true => exact calls_of_run ca28_ok Tryz.func5 (by kernel_rfl) rfl gvt_true [.bool true] (.cons (.bool _) .nil) w
  | false => exact calls_of_run ca28_ok Tryz.func5 (by kernel_rfl) rfl gvt_false [.bool false] (.cons (.bool _) .nil) w

end Go.Proofs.YtlkbahknmbgjmaaGreat.Ev
