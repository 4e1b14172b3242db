/-
  A closed call that hands back a bool: the same in every memory.
  No conditions.
-/
import Derived.Test.YtlkbahknmbgjmaaGreatFe
namespace Go.Proofs.YtlkbahknmbgjmaaGreat.Ev
open Go Go.RowKit

section
variable {P : Program}

theorem Stp.nothing {w : World} {ν : Mp} {g : Hp} {u : World} (s : Stp (fun _ => none) h0 w ν g u) : Below w.heap.size w u :=
  ⟨s.os, s.tape, s.output, s.size, fun k hk => s.foot k hk fun ⟨_, _, _, _, h, _⟩ => by cases h⟩

/-- A call of nothing known, that hands back b. -/
def Closed (P : Program) (g : FuncId) (b : Bool) : Prop := ∀ w : World, CallWp P g #[] w fun u w' => u = .bool b ∧ Below w.heap.size w w'

theorem Closed.of_run {g : FuncId} {b : Bool} {ca : Ca} (hca : CaOk P ca) (h : ca.call g [] h0 (fun v _ => match v with | .bool c => bif? (.ret (F.all .top) h0) .no (c == b) | _ => .no) = .ret (F.all .top) h0) : Closed P g b := fun w => by
  obtain ⟨v, h', e, H⟩ := hca g [] h0 _ _ h (by simp)
  refine (H _ w [] (Rel.start w) .nil).mono fun u w' ⟨ν, s, hv⟩ => ⟨?_, s.nothing⟩
  cases v with
  | bool c =>
    obtain ⟨hb, _⟩ := bif_yes e (by simp)
    rw [eq_of_beq hb] at hv
    cases hv; rfl
  | _ => cases e

/-- As a summary. -/
noncomputable def pYes (b : Bool) : Fc := ⟨fun _ l h k => match l with
  | [] => k (.bool b) h
  | _ => .no⟩
theorem pYes_ok {g : FuncId} {b : Bool} (H : Closed P g b) : FcOk P g (pYes b) := fun ca _ l h k out e hn => by
  cases l with
  | cons x l => exact absurd e.symm hn
  | nil =>
    refine ⟨.bool b, h, e, fun μ w args hrel hv => ?_⟩
    cases hv
    exact (H w).mono fun u w' ⟨hu, hb⟩ => ⟨μ, Stp.below hrel hb, by rw [hu]; exact .bool b⟩

/-- The summaries, by number. -/
noncomputable def pick {α : Type} (f : Nat) (l : List (Nat × α)) : Option α := List.rec (motive := fun _ => Option α) none (fun p _ ih => sel (some p.2) ih (Nat.beq f p.1)) l
theorem pick_ok {α : Type} {f : Nat} {x : α} : ∀ {l : List (Nat × α)}, pick f l = some x → (f, x) ∈ l
  | [], h => by cases h
  | p :: l, h => by
    have h : sel (some p.2) (pick f l) (Nat.beq f p.1) = some x := h
    cases hb : Nat.beq f p.1 with
    | true =>
      rw [hb] at h
      have h : some p.2 = some x := h
      cases h
      rw [Nat.eq_of_beq_eq_true hb]; exact List.mem_cons_self
    | false => rw [hb] at h; exact List.mem_cons_of_mem _ (pick_ok h)
theorem prims_ok {l : List (Nat × Fc)} (h : ∀ p ∈ l, FcOk P p.1 p.2) : PrimOk P fun f => pick f l := fun g fc hp ca hca l' h' k out e hn => h (g, fc) (pick_ok hp) ca hca l' h' k out e hn

end

set_option maxRecDepth 100000 in
theorem names_ok : ∀ (g : Nat) fn c, Tryz.prog.funcs[g]? = some fn → fn.body = some c → (fn.name == "runtime.NumGoroutine") = false := by
  have h : Tryz.prog.funcs.toList.all (fun fn => !(fn.name == "runtime.NumGoroutine")) = true := by decide +kernel
  intro g fn c hf _
  have hm : fn ∈ Tryz.prog.funcs.toList := Array.mem_toList_iff.2 (Array.mem_of_getElem? hf)
  have := List.all_eq_true.1 h fn hm
  simpa using this
theorem follows_ok : Tryz.prog.follows .mixedOrders = true := by decide +kernel

end Go.Proofs.YtlkbahknmbgjmaaGreat.Ev
