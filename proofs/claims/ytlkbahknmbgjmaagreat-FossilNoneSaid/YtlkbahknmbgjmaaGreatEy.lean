/-
  The interpreter's code, functions and calls.
  No conditions.
-/
import Derived.Test.YtlkbahknmbgjmaaGreatEx
import Derived.LoopN
import Derived.Scope
import Derived.Defers
namespace Go.Proofs.YtlkbahknmbgjmaaGreat.Ev
open Go

section
variable {P : Program} {nt : Nat} {Q : Exit → Act → World → Prop} {ca : Ca}

theorem Ends.thn {μ : Mp} {h : Hp} {w : World} {k : F → Hp → Out} {o : Out} (e : Ends nt μ h w Q (o.thn k)) {next : Act → World → Prop} (hk : Nexts nt Q next k) : Ends nt μ h w (Exit.then next Q) o := by
  cases o with
  | no => exact e
  | nrm fr g => exact fun ν a u s r => hk fr g ν a u s.rel r (Ends.step (o := k fr g) e s)
  | exi id fr g => exact e
  | ret fr g => exact e

theorem Ends.cat {μ : Mp} {h : Hp} {w : World} {id : Nat} {o : Out} (e : Ends nt μ h w Q (o.cat id)) : Ends nt μ h w (Exit.inBlock id Q) o := by
  cases o with
  | no => exact e
  | nrm fr g => exact e
  | ret fr g => exact e
  | exi i fr g =>
    have e : Ends nt μ h w Q (bif? (.nrm fr g) (.exi i fr g) (Nat.beq i id)) := e
    intro ν a u s r
    show if i = id then Q .normal a u else Q (.exit i) a u
    by_cases hi : i = id
    · subst hi
      rw [Nat.beq_refl] at e
      rw [if_pos rfl]; exact e ν a u s r
    · have hb : Nat.beq i id = false := by
        cases hb : Nat.beq i id with
        | false => rfl
        | true => exact absurd (Nat.eq_of_beq_eq_true hb) hi
      rw [hb] at e
      rw [if_neg hi]; exact e ν a u s r

theorem Ends.scope {μ : Mp} {h : Hp} {w : World} {o : Out} (e : Ends nt μ h w Q o) : Ends nt μ h w (Exit.noGoto Q) o := by
  cases o <;> exact e

theorem loopN_ok {c : Code} {m : Cm} (hc : ∀ Q, Nexts nt Q (c.wp P Q) (m.run ca)) : ∀ n, Nexts nt Q (Code.rounds P c Q n) ((loopN m n).run ca)
  | 0 => fun _ _ _ _ _ _ _ e => e.elim
  | n + 1 => fun fr h μ a w hrel s e => by
    have e : Ends nt μ h w Q ((m.run ca fr h).thn ((loopN m n).run ca)) := e
    exact hc _ fr h μ a w hrel s (e.thn (loopN_ok hc n))

theorem code_ok (hm : P.follows .mixedOrders = true) (hca : CaOk P ca) (hnt : nt ≤ 250) (lf : Nat) : ∀ (c : Code) (Q : Exit → Act → World → Prop), Nexts nt Q (c.wp P Q) ((code P nt lf c).run ca) := by
  intro c
  induction c with
  | skip => exact fun Q fr h μ a w hrel s e => _root_.Go.wp_skip (e μ a w (Stp.refl hrel) s)
  | label l => exact fun Q fr h μ a w hrel s e => wp_label (e μ a w (Stp.refl hrel) s)
  | region id ops draw => exact fun Q => region_ok hm hca hnt id ops draw
  | seq x y ihx ihy =>
    intro Q fr h μ a w hrel s e
    have e : Ends nt μ h w Q (((code P nt lf x).run ca fr h).thn ((code P nt lf y).run ca)) := e
    exact wp_seq (ihx _ fr h μ a w hrel s (e.thn (ihy Q)))
  | cond c x y ihx ihy =>
    intro Q fr h μ a w hrel s e
    have e : Ends nt μ h w Q (((opd c).of fr).bool? fun t => bif? ((code P nt lf x).run ca fr h) ((code P nt lf y).run ca fr h) t) := e
    obtain ⟨t, hc, e1⟩ := bool?_inv rfl e.some
    rw [← e1] at e
    have hv := opd_rel s.frr c
    rw [hc] at hv
    have hv : a.eval c = .bool t := by
      generalize a.eval c = z at hv
      cases hv; rfl
    refine wp_cond hv ?_
    cases t with
    | true => exact ihx Q fr h μ a w hrel s e
    | false => exact ihy Q fr h μ a w hrel s e
  | block id x ih => exact fun Q fr h μ a w hrel s e => wp_block (ih _ fr h μ a w hrel s (Ends.cat e))
  | loop x ih => exact fun Q fr h μ a w hrel s e => wp_loop_rounds lf (loopN_ok ih lf fr h μ a w hrel s e)
  | scope x ih => exact fun Q fr h μ a w hrel s e => wp_scope_straight (ih _ fr h μ a w hrel s (Ends.scope e))
  | exit id => exact fun Q fr h μ a w hrel s e => wp_exit (e μ a w (Stp.refl hrel) s)
  | ret => exact fun Q fr h μ a w hrel s e => wp_ret (e μ a w (Stp.refl hrel) s)
  | rangeFunc f params assign body _ _ => exact fun Q fr h μ a w hrel s e => e.elim
  | goto l => exact fun Q fr h μ a w hrel s e => e.elim
  | refuse why => exact fun Q fr h μ a w hrel s e => e.elim

/-! ### Results -/
def rv (tmps : Array Value) : ResultVar → Sem Value
  | .tmp t => pure (tmps.getD t undef)
  | .cell a t => do loadVar t (← asAddr (tmps.getD a undef))

theorem res1_ok (r : ResultVar) {fr : F} {h : Hp} {q : AV → Out} {out : Out} (e : (res1 P r).of fr h q = out) (hn : out ≠ .no) :
    ∃ v, q v = out ∧ ∀ (μ : Mp) (w : World) (a : Act), Rel μ h w → FR μ fr a.tmps → ∃ u, (rv a.tmps r).run P w = .ok u w ∧ VR μ v u := by
  cases r with
  | tmp t => exact ⟨_, e, fun μ w a _ r => ⟨_, rfl, opd_rel r (.tmp t)⟩⟩
  | cell x t =>
    have e : (match opC (.load t (.tmp x)) P with
      | .rd f => (⟨f⟩ : Rs)
      | _ => ⟨fun _ _ _ => .no⟩).of fr h q = out := e
    cases hop : opC (.load t (.tmp x)) P with
    | rd f =>
      rw [hop] at e
      obtain ⟨v, e1, H⟩ := opC_rd hop fr h q out e hn
      refine ⟨v, e1, fun μ w a hrel r => ?_⟩
      obtain ⟨u, hu, hv⟩ := H μ h w a { (default : Oper) with op := .load t (.tmp x) } rfl (Sub.refl h) hrel r
      refine ⟨u, ?_, hv⟩
      have hu : (do pure (Next.value (← Instr.loadAt t (a.tmps.getD x undef))) : Sem Next).run P w = .ok (.value u) w := hu
      have hl : (Instr.loadAt t (a.tmps.getD x undef)).run P w = .ok u w := by
        rw [Sem.run_bind] at hu
        cases hr : (Instr.loadAt t (a.tmps.getD x undef)).run P w with
        | ok u' w' =>
          rw [hr] at hu
          simp only [Result.andThen_ok, Sem.run_pure] at hu
          cases hu; rfl
        | halt y w' => rw [hr] at hu; cases hu
      show (do loadVar t (← asAddr (a.tmps.getD x undef)) : Sem Value).run P w = .ok u w
      unfold Instr.loadAt at hl
      generalize a.tmps.getD x undef = z at hl
      cases z with
      | pointer p =>
        cases p with
        | some ad => exact hl
        | none => simp [Instr.sureAddr, stuck] at hl
      | _ => simp [Instr.sureAddr, stuck] at hl
    | _ => rw [hop] at e; exact absurd e.symm hn

theorem ress_ok : ∀ (l : List ResultVar) {fr : F} {h : Hp} {q : List AV → Out} {out : Out}, (ress P l).of fr h q = out → out ≠ .no →
    ∃ vs, q vs = out ∧ vs.length = l.length ∧ ∀ (μ : Mp) (w : World) (a : Act), Rel μ h w → FR μ fr a.tmps → ∃ us, (l.mapM (rv a.tmps)).run P w = .ok us w ∧ VRs μ vs us
  | [], fr, h, q, out, e, hn => ⟨[], e, rfl, fun μ w a _ _ => ⟨[], rfl, .nil⟩⟩
  | r :: l, fr, h, q, out, e, hn => by
    obtain ⟨v, e1, H1⟩ := res1_ok r (show (res1 P r).of fr h (fun v => (ress P l).of fr h fun vs => q (v :: vs)) = out from e) hn
    obtain ⟨vs, e2, hl, H2⟩ := ress_ok l e1 hn
    refine ⟨v :: vs, e2, by simp [hl], fun μ w a hrel r' => ?_⟩
    obtain ⟨u, h1, h2⟩ := H1 μ w a hrel r'
    obtain ⟨us, h3, h4⟩ := H2 μ w a hrel r'
    refine ⟨u :: us, ?_, .cons h2 h4⟩
    rw [List.mapM_cons, Sem.run_bind, h1]
    simp only [Result.andThen_ok, Sem.run_bind, h3, Sem.run_pure]

theorem results_eq (fn : Func) (tmps : Array Value) : results fn tmps = (do let vs ← fn.results.mapM (rv tmps); pure (if h : vs.size = 1 then vs[0] else .tuple vs)) := by
  unfold results
  congr 1

theorem res_ok (fn : Func) {fr : F} {h : Hp} {q : AV → Out} {out : Out} (e : (res P fn.results.toList).of fr h q = out) (hn : out ≠ .no) :
    ∃ v, q v = out ∧ ∀ (μ : Mp) (w : World) (a : Act), Rel μ h w → FR μ fr a.tmps → ∃ u, (results fn a.tmps).run P w = .ok u w ∧ VR μ v u := by
  have key : ∀ us : List Value, ∀ (tmps : Array Value) (w : World), (fn.results.toList.mapM (rv tmps)).run P w = .ok us w → (results fn tmps).run P w = .ok (if h : us.toArray.size = 1 then us.toArray[0] else .tuple us.toArray) w := fun us tmps w h => by
    rw [results_eq, Array.mapM_eq_mapM_toList, Sem.run_bind]
    have : (List.toArray <$> fn.results.toList.mapM (rv tmps)).run P w = .ok us.toArray w := by
      rw [map_eq_pure_bind, Sem.run_bind, h]; rfl
    rw [this]; rfl
  generalize hl : fn.results.toList = l at e key
  match l, hl with
  | [r], hl =>
    obtain ⟨v, e1, H⟩ := res1_ok r e hn
    refine ⟨v, e1, fun μ w a hrel r' => ?_⟩
    obtain ⟨u, h1, h2⟩ := H μ w a hrel r'
    refine ⟨u, key [u] a.tmps w ?_, h2⟩
    rw [List.mapM_cons, Sem.run_bind, h1]; rfl
  | [], hl => exact ⟨.tup [], e, fun μ w a _ _ => ⟨.tuple ⟨[]⟩, key [] a.tmps w rfl, .tup .nil⟩⟩
  | r1 :: r2 :: l, hl =>
    obtain ⟨vs, e1, hlen, H⟩ := ress_ok (r1 :: r2 :: l) (show (ress P (r1 :: r2 :: l)).of fr h (fun vs => q (.tup vs)) = out from e) hn
    refine ⟨.tup vs, e1, fun μ w a hrel r' => ?_⟩
    obtain ⟨us, h1, h2⟩ := H μ w a hrel r'
    refine ⟨.tuple ⟨us⟩, ?_, .tup h2⟩
    have := key us a.tmps w h1
    have hus : us.length = l.length + 2 := by rw [← h2.length, hlen]; rfl
    rw [dif_neg (by simp; omega)] at this
    exact this

end
end Go.Proofs.YtlkbahknmbgjmaaGreat.Ev
