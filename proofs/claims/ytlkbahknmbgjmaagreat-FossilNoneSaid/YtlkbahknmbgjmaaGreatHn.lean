/-
  FossilNone comes to true.
  No conditions.
-/
import Derived.Test.YtlkbahknmbgjmaaGreatHm
namespace Go.Proofs.YtlkbahknmbgjmaaGreat.Ev
open Go Go.RowKit

set_option maxRecDepth 1000000
/-- A call hands back b. -/
theorem calls_of_run6 {P : Program} {g : FuncId} {fn : Func} {c : Code} {ca : Ca} {l : List AV} {b : Bool} (hca : CaOk P ca) (hf : P.funcs[g]? = some fn) (hname : (fn.name == "runtime.NumGoroutine") = false) (hb : fn.body = some c)
    (h : isRet (ca.call g l h0 (isB b)) = true) (args : List Value) (hv : VRs (fun _ => none) l args) (w : World) : Calls P g ⟨args⟩ w fun e w' => e = .returned (.bool b) ∧ Below w.heap.size w w' := by
  generalize ho : ca.call g l h0 (isB b) = o at h
  cases o with
  | ret fr h' =>
    obtain ⟨v, g', e, H⟩ := hca g l h0 _ _ ho (by simp)
    have H := H _ w args (Rel.start w) hv
    unfold CallWp at H
    rw [MuLone.run_callFunc_enter hf hname hb] at H
    refine H.mono fun e' t ⟨u, he, ν, s, hv⟩ => ⟨?_, s.nothing⟩
    rw [he]
    cases v with
    | bool d =>
      have e : bif? (.ret (F.all .top) h0) .no (d == b) = .ret fr h' := e
      obtain ⟨hb, _⟩ := bif_yes e (by simp)
      rw [eq_of_beq hb] at hv
      cases hv; rfl
    | _ => cases e
  | _ => cases h

noncomputable def prL29 : List (Nat × Fc) := (32, pYes true) :: prL
noncomputable def prF29 (f : FuncId) : Option Fc := pick f prL29
noncomputable def ca29 : Ca := calls Tryz.prog idle prF29 100000 300
theorem ca29_ok : CaOk Tryz.prog ca29 := calls_ok follows_ok idle_ok (prims_ok fun p hp => by
  unfold prL29 at hp
  rcases List.mem_cons.1 hp with h | h
  · rw [h]; show FcOk Tryz.prog 32 (pYes true); exact pYes_ok closed32
  · exact prL_ok p h) 100000 names_ok 300

theorem fossil_run : isRet (ca29.call 6 [.agg [.sc, .sc, .sc, .sc]] h0 (isB true)) = true := by decide +kernel

theorem fossil_calls (v0 v1 v2 v3 : Value) (h0 : v0.oneCell' = true) (h1 : v1.oneCell' = true) (h2 : v2.oneCell' = true) (h3 : v3.oneCell' = true) (w : World) :
    Calls Tryz.prog 6 #[.agg #[v0, v1, v2, v3]] w fun e w' => e = .returned (.bool true) ∧ Below w.heap.size w w' :=
  calls_of_run6 ca29_ok Tryz.func6 (by kernel_rfl) rfl fossil_run [.agg ⟨[v0, v1, v2, v3]⟩] (.cons (.agg (.cons (.sc _ h0) (.cons (.sc _ h1) (.cons (.sc _ h2) (.cons (.sc _ h3) .nil)))) (by simp [h0, h1, h2, h3])) .nil) w

end Go.Proofs.YtlkbahknmbgjmaaGreat.Ev
