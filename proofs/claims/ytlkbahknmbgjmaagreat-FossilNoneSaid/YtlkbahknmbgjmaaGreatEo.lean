/-
  A region whose order is open: the run in the order of the text.
  No conditions.
-/
import Derived.Test.YtlkbahknmbgjmaaGreatEn
namespace Go.Proofs.YtlkbahknmbgjmaaGreat.Ev
open Go

section
variable {P : Program}

theorem cls_rd {o : Op} {f} (h : opC o P = .rd f) : cls P o = if looks P o then .r else .p := by
  unfold cls; rw [h]; dsimp only; cases looks P o <;> rfl
theorem cls_al {o : Op} {f} (h : opC o P = .al f) : cls P o = .a := by unfold cls; rw [h]
theorem cls_wr {o : Op} {f} (h : opC o P = .wr f) : cls P o = .w := by unfold cls; rw [h]
theorem isR_rd {o : Op} (h : isR (cls P o) = true) : ∃ f, opC o P = .rd f := by
  unfold cls at h
  cases ho : opC o P with
  | rd f => exact ⟨f, rfl⟩
  | _ => rw [ho] at h; cases h

variable {nt : Nat} {ops : List Oper} {all : List Inf} {ca : Ca} {b : Nat}

theorem operD_ok (hca : CaOk P ca) (hall : ∀ y ∈ all, y.cl = cls P y.o.op) {x : Inf} (hx : x.cl = cls P x.o.op) {rest : Dm} {t : Tr} {out : Out} (e : (operD P nt ops all x rest).run ca b t.hs t.fr t.h = out) (hn : out ≠ .no) :
    ∃ s t', StepOk P nt ops all b x t s t' ∧ rest.run ca b t'.hs t'.fr t'.h = out := by
  unfold operD at e
  cases hd : dstOk nt x.o.dst with
  | false => rw [hd] at e; exact absurd e.symm hn
  | true =>
    rw [hd] at e
    -- not wanted
    have skip : ∀ hs', (hs' = if isW x.cl then t.h :: t.hs else t.hs) → wantsB ops x.o.guard t.fr = some false → rest.run ca b hs' ((dst x.o.dst).put (.tup []) t.fr) t.h = out → ∃ s t', StepOk P nt ops all b x t s t' ∧ rest.run ca b t'.hs t'.fr t'.h = out :=
      fun hs' h1 h2 h3 => ⟨⟨.tup [], false, ⟨0, 0, false, false, .li []⟩⟩, ⟨_, t.h, hs'⟩, ⟨hd, rfl, h1, h2, fun _ => ⟨rfl, rfl⟩, fun h => by cases h⟩, h3⟩
    have both : ∀ {X : Out} hs', (hs' = if isW x.cl then t.h :: t.hs else t.hs) → (wants ops x.o.guard).of t.fr X (rest.run ca b hs' ((dst x.o.dst).put (.tup []) t.fr) t.h) = out →
        (wantsB ops x.o.guard t.fr = some true → X = out → ∃ s t', StepOk P nt ops all b x t s t' ∧ rest.run ca b t'.hs t'.fr t'.h = out) → ∃ s t', StepOk P nt ops all b x t s t' ∧ rest.run ca b t'.hs t'.fr t'.h = out := fun {X} hs' h1 e hX => by
      rw [wants_eq] at e
      cases hw : wantsB ops x.o.guard t.fr with
      | none => rw [hw] at e; exact absurd e.symm hn
      | some w =>
        rw [hw] at e
        cases w with
        | true => exact hX hw e
        | false => exact skip hs' h1 hw e
    cases hop : opC x.o.op P with
    | no => rw [hop] at e; exact absurd e.symm hn
    | df f => rw [hop] at e; exact absurd e.symm hn
    | rd f =>
      have hcl := hx.trans (cls_rd hop)
      rw [hop] at e
      cases hr : isR x.cl with
      | false =>
        rw [hr] at e
        have hp : x.cl = .p ∧ looks P x.o.op = false := by
          rw [hcl] at hr ⊢
          cases hl : looks P x.o.op with
          | true => rw [hl] at hr; cases hr
          | false => exact ⟨rfl, rfl⟩
        have hw : isW x.cl = false := by rw [hp.1]; rfl
        refine both t.hs (by rw [hw]; rfl) e fun h1 e1 => ?_
        have e1 : f t.fr t.h (fun v => rest.run ca b t.hs ((dst x.o.dst).put v t.fr) t.h) = out := e1
        rw [still_rd hop hp.2 t.fr t.h h0] at e1
        obtain ⟨v, e2, H⟩ := reads_of (ops := ops) hop e1 hn
        refine ⟨⟨v, true, ⟨0, 0, false, false, .li []⟩⟩, ⟨_, t.h, t.hs⟩, ⟨hd, rfl, by rw [hw]; rfl, h1, (fun h => by cases h), fun _ => ?_⟩, e2⟩
        unfold Does; rw [hp.1]
        exact ⟨rfl, H⟩
      | true =>
        rw [hr] at e
        have hp : x.cl = .r := by
          rw [hcl] at hr ⊢
          cases hl : looks P x.o.op with
          | false => rw [hl] at hr; cases hr
          | true => rfl
        have hw : isW x.cl = false := by rw [hp]; rfl
        refine both t.hs (by rw [hw]; rfl) e fun h1 e1 => ?_
        have e1 : f t.fr t.h (fun v => past f t.fr v (rest.run ca b t.hs ((dst x.o.dst).put v t.fr) t.h) (countW all x - countB all x) t.hs) = out := e1
        obtain ⟨v, e2, H⟩ := reads_of (ops := ops) hop e1 hn
        obtain ⟨e3, H'⟩ := past_ok (ops := ops) hop hn e2
        refine ⟨⟨v, true, ⟨0, 0, false, false, .li []⟩⟩, ⟨_, t.h, t.hs⟩, ⟨hd, rfl, by rw [hw]; rfl, h1, (fun h => by cases h), fun _ => ?_⟩, e3⟩
        unfold Does; rw [hp]
        exact ⟨rfl, H, H'⟩
    | al f =>
      have hp := hx.trans (cls_al hop)
      have hw : isW x.cl = false := by rw [hp]; rfl
      rw [hop] at e
      refine both t.hs (by rw [hw]; rfl) e fun h1 e1 => ?_
      have e1 : f (b + countA all x) t.fr (fun v k => rest.run ca b t.hs ((dst x.o.dst).put v t.fr) (t.h.at (b + countA all x) k)) = out := e1
      rw [al_congr hop (only_alike ops x.o t.fr)] at e1
      obtain ⟨v, k, e2, H⟩ := opC_al hop _ _ _ _ e1 hn
      refine ⟨⟨v, true, k⟩, ⟨_, t.h.at (b + countA all x) k, t.hs⟩, ⟨hd, rfl, by rw [hw]; rfl, h1, (fun h => by cases h), fun _ => ?_⟩, e2⟩
      unfold Does; rw [hp]
      exact ⟨rfl, fun μ w a o ho r hid => H μ w a o ho r hid⟩
    | wr f =>
      have hp := hx.trans (cls_wr hop)
      have hw : isW x.cl = true := by rw [hp]; rfl
      rw [hop] at e
      refine both (t.h :: t.hs) (by rw [hw]; rfl) e fun h1 e1 => ?_
      have e1 : f ca t.fr t.h (fun v h' => later P ops ((dst x.o.dst).put v t.fr) h' (rest.run ca b (t.h :: t.hs) ((dst x.o.dst).put v t.fr) h') (all.filter fun y => isR y.cl && Nat.blt y.i x.i && !x.bef.testBit y.i)) = out := e1
      rw [wr_congr hop (only_alike ops x.o t.fr)] at e1
      obtain ⟨v, h', e2, H⟩ := opC_wr hop ca hca _ _ _ _ e1 hn
      obtain ⟨e3, H'⟩ := later_ok hn e2 fun y hy => by
        obtain ⟨hy1, hy2⟩ := List.mem_filter.1 hy
        simp only [Bool.and_eq_true] at hy2
        exact isR_rd (by rw [← hall y hy1]; exact hy2.1.1)
      refine ⟨⟨v, true, ⟨0, 0, false, false, .li []⟩⟩, ⟨_, h', t.h :: t.hs⟩, ⟨hd, rfl, by rw [hw]; rfl, h1, (fun h => by cases h), fun _ => ?_⟩, e3⟩
      unfold Does; rw [hp]
      refine ⟨fun μ w a o next Q ho hrel r hk => H μ w a o next Q ho hrel r hk, fun y hy h2 h3 h4 h5 => H' y (List.mem_filter.2 ⟨hy, ?_⟩) h5⟩
      have h3 : Nat.blt y.i x.i = true := by rw [Nat.blt_eq]; exact h3
      rw [h2, h3, h4]; rfl

theorem pass_ok (hca : CaOk P ca) (hall : ∀ y ∈ all, y.cl = cls P y.o.op) : ∀ (l : List Inf) (p : Nat), (∀ j, l[j]? = all[p + j]?) → ∀ (t : Tr) (out : Out), (opersD P nt ops all l).run ca b t.hs t.fr t.h = out → out ≠ .no →
    ∃ (tr : Nat → Tr) (sp : Nat → Sp), tr p = t ∧ out = .nrm (tr (p + l.length)).fr (tr (p + l.length)).h ∧ ∀ i x, p ≤ i → all[i]? = some x → StepOk P nt ops all b x (tr i) (sp i) (tr (i + 1))
  | [], p, hl, t, out, e, hn => ⟨fun _ => t, fun _ => ⟨.top, false, ⟨0, 0, false, false, .li []⟩⟩, rfl, e.symm, fun i x hi hx => by
      obtain ⟨j, rfl⟩ : ∃ j, i = p + j := ⟨i - p, by omega⟩
      rw [← hl j] at hx; cases hx⟩
  | x :: l, p, hl, t, out, e, hn => by
    have hx0 : all[p]? = some x := by simpa using (hl 0).symm
    have hmem := List.mem_of_getElem? hx0
    obtain ⟨s, t', hs, e1⟩ := operD_ok hca hall (hall x hmem) (show (operD P nt ops all x (opersD P nt ops all l)).run ca b t.hs t.fr t.h = out from e) hn
    obtain ⟨tr, sp, h1, h2, h3⟩ := pass_ok hca hall l (p + 1) (fun j => by have := hl (j + 1); simpa [Nat.add_assoc, Nat.add_comm 1 j] using this) t' out e1 hn
    refine ⟨fun i => if i = p then t else tr i, fun i => if i = p then s else sp i, by simp, ?_, fun i y hi hy => ?_⟩
    · have : p + (x :: l).length = p + 1 + l.length := by simp; omega
      rw [this]
      simp only [show ¬ p + 1 + l.length = p by omega, if_false]
      exact h2
    · by_cases e : i = p
      · subst e
        rw [hx0] at hy; cases hy
        simp only [if_true, show ¬ i + 1 = i by omega, if_false, h1]
        exact hs
      · simp only [e, if_false, show ¬ i + 1 = p by omega]
        exact h3 i y (by omega) hy

end
end Go.Proofs.YtlkbahknmbgjmaaGreat.Ev
