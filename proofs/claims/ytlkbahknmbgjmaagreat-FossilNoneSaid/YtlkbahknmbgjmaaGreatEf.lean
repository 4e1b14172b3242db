/-
  The interpreter's operations that only look, the rest; and all of them.
  No conditions.
-/
import Derived.Test.YtlkbahknmbgjmaaGreatEe
namespace Go.Proofs.YtlkbahknmbgjmaaGreat.Ev
open Go

section
variable {P : Program}

/-! ### Two operands -/
theorem exec_bin {a : Act} {o : Oper} {op : BinOp} {t u : TypeId} {x y : Operand} {v w' : Value} {w : World} (ho : o.op = .binOp op t x y u) {X Y : Value} (hx : a.eval x = X) (hy : a.eval y = Y)
    (hg : (eqGuard op t x y X Y).run P w = .ok () w) (hb : (binOp op t X Y).run P w = .ok v w) (_ : w' = v) : (execOp a.eval o).run P w = .ok (.value v) w := by
  refine exec_v (s := do eqGuard op t x y (a.eval x) (a.eval y); binOp op t (a.eval x) (a.eval y)) (by unfold execOp; rw [ho]) ?_
  rw [hx, hy, Sem.run_bind, hg]; exact hb

theorem guard_int (op : BinOp) (t : TypeId) (x y : Operand) (k l : IntKind) (m n : Int) (w : World) : (eqGuard op t x y (.int k m) (.int l n)).run P w = .ok () w := by
  unfold eqGuard; cases op <;> rfl
theorem guard_str (op : BinOp) (t : TypeId) (x y : Operand) (m n : ByteArray) (w : World) : (eqGuard op t x y (.string m) (.string n)).run P w = .ok () w := by
  unfold eqGuard; cases op <;> rfl
theorem guard_flt (op : BinOp) (t : TypeId) (x y : Operand) (k l : FloatKind) (m n : Nat) (w : World) : (eqGuard op t x y (.float k m) (.float l n)).run P w = .ok () w := by
  unfold eqGuard; cases op <;> rfl
theorem guard_bool (op : BinOp) (t : TypeId) (x y : Operand) (m n : Bool) (w : World) : (eqGuard op t x y (.bool m) (.bool n)).run P w = .ok () w := by
  unfold eqGuard; cases op <;> rfl
theorem guard_ptr (op : BinOp) (t : TypeId) (x y : Operand) (m n : Option Addr) (w : World) : (eqGuard op t x y (.pointer m) (.pointer n)).run P w = .ok () w := by
  unfold eqGuard; cases op <;> rfl
theorem guard_slc (op : BinOp) (t : TypeId) (x y : Operand) (m n : Option Addr) (b c d e : Nat) (w : World) : (eqGuard op t x y (.slice m b c) (.slice n d e)).run P w = .ok () w := by
  unfold eqGuard; cases op <;> rfl

theorem equal_succ (t : TypeId) (x y : Value) : Op.equal t x y = Op.equalIn (9999 + 1) t x y := rfl

theorem eq_bool {t : TypeId} (h : P.underlying t = some .bool) (a b : Bool) (w : World) : (Op.equal t (.bool a) (.bool b)).run P w = .ok (a == b) w := by
  rw [equal_succ, Op.equalIn, Sem.run_bind, run_underlying h]; rfl
theorem eq_ptr_l {t e : TypeId} (h : P.underlying t = some (.pointer e)) (b : Option Addr) (w : World) : (Op.equal t (.pointer none) (.pointer b)).run P w = .ok b.isNone w := by
  rw [equal_succ, Op.equalIn, Sem.run_bind, run_underlying h]; rfl
theorem eq_ptr_r {t e : TypeId} (h : P.underlying t = some (.pointer e)) (b : Addr) (w : World) : (Op.equal t (.pointer (some b)) (.pointer none)).run P w = .ok false w := by
  rw [equal_succ, Op.equalIn, Sem.run_bind, run_underlying h]; rfl
theorem eq_slc_l {t e : TypeId} (h : P.underlying t = some (.slice e)) (b : Option Addr) (m n i j : Nat) (w : World) : (Op.equal t (.slice none m n) (.slice b i j)).run P w = .ok b.isNone w := by
  rw [equal_succ, Op.equalIn, Sem.run_bind, run_underlying h]; rfl
theorem eq_slc_r {t e : TypeId} (h : P.underlying t = some (.slice e)) (b : Addr) (m n i j : Nat) (w : World) : (Op.equal t (.slice (some b) m n) (.slice none i j)).run P w = .ok false w := by
  rw [equal_succ, Op.equalIn, Sem.run_bind, run_underlying h]; rfl

theorem ptrNil_inv {v : AV} {k : Bool → Out} {out : Out} (h : ptrNil v k = out) (hn : out ≠ .no) : ∃ r, k r = out ∧ ∀ {μ : Mp} {u : Value}, VR μ v u → ∃ p : Option Addr, u = .pointer p ∧ p.isNone = r := by
  cases v <;> first | exact absurd h.symm hn | exact ⟨_, h, fun r => by cases r; exact ⟨_, rfl, rfl⟩⟩
theorem slcNil_inv {v : AV} {k : Bool → Out} {out : Out} (h : slcNil v k = out) (hn : out ≠ .no) : ∃ r, k r = out ∧ ∀ {μ : Mp} {u : Value}, VR μ v u → ∃ (p : Option Addr) (m n : Nat), u = .slice p m n ∧ p.isNone = r := by
  cases v <;> first | exact absurd h.symm hn | exact ⟨_, h, fun r => by cases r; exact ⟨_, _, _, rfl, rfl⟩⟩

theorem eqs_of {μ : Mp} {op : BinOp} {t u : TypeId} {x y : Operand} {a : Act} {o : Oper} {w : World} (ho : o.op = .binOp op t x y u) {X Y : Value} (hx : a.eval x = X) (hy : a.eval y = Y)
    {r b : Bool} (hop : (op = .eql ∧ b = true) ∨ (op = .neq ∧ b = false)) (hg : (eqGuard op t x y X Y).run P w = .ok () w)
    (he : binOp .eql t X Y = (do pure (.bool (← Op.equal t X Y)))) (hne : binOp .neq t X Y = (do pure (.bool (!(← Op.equal t X Y))))) (h : (Op.equal t X Y).run P w = .ok r w) :
    ∃ v, (execOp a.eval o).run P w = .ok (.value v) w ∧ VR μ (.bool (r == b)) v := by
  rcases hop with ⟨rfl, rfl⟩ | ⟨rfl, rfl⟩
  · refine ⟨.bool r, exec_bin ho hx hy hg ?_ rfl, ?_⟩
    · rw [he, Sem.run_bind, h]; rfl
    · cases r <;> constructor
  · refine ⟨.bool !r, exec_bin ho hx hy hg ?_ rfl, ?_⟩
    · rw [hne, Sem.run_bind, h]; rfl
    · cases r <;> constructor

theorem eqB_ok {t u : TypeId} (ht : P.underlying t = some .bool) {op : BinOp} {b : Bool} (hop : (op = .eql ∧ b = true) ∨ (op = .neq ∧ b = false)) {x y : Operand} {f} (h : eqB b (opd x) (opd y) = .rd f) :
    RdOk P (.binOp op t x y u) f := by
  cases h
  intro fr h q out e hn
  obtain ⟨m, hm, e⟩ := bool?_inv e hn
  obtain ⟨n, hn', e⟩ := bool?_inv e hn
  refine ⟨_, e, fun μ H w a o ho _ _ r => ?_⟩
  have hx := opd_rel r x
  rw [hm] at hx
  have hx : a.eval x = .bool m := by generalize a.eval x = z at hx; cases hx; rfl
  have hy := opd_rel r y
  rw [hn'] at hy
  have hy : a.eval y = .bool n := by generalize a.eval y = z at hy; cases hy; rfl
  exact eqs_of ho hx hy hop (guard_bool _ _ _ _ _ _ _) rfl rfl (eq_bool ht m n w)

theorem eqP_ok {t u e : TypeId} (ht : P.underlying t = some (.pointer e)) {op : BinOp} {b : Bool} (hop : (op = .eql ∧ b = true) ∨ (op = .neq ∧ b = false)) {x y : Operand} {f} (h : eqP b (opd x) (opd y) = .rd f) :
    RdOk P (.binOp op t x y u) f := by
  cases h
  intro fr h q out e hn
  obtain ⟨m, e, hm⟩ := ptrNil_inv e hn
  obtain ⟨n, e, hn'⟩ := ptrNil_inv e hn
  obtain ⟨hb, e⟩ := bif_yes e hn
  refine ⟨_, e, fun μ H w a o ho _ _ r => ?_⟩
  obtain ⟨p, hx, hp⟩ := hm (opd_rel r x)
  obtain ⟨s, hy, hs⟩ := hn' (opd_rel r y)
  refine eqs_of ho hx hy hop (guard_ptr _ _ _ _ _ _ _) rfl rfl ?_
  cases p with
  | none =>
    rw [eq_ptr_l ht]
    cases hp
    subst hs
    cases s <;> rfl
  | some p =>
    cases hp
    cases s with
    | none => cases hs; exact eq_ptr_r ht p w
    | some s => cases hs; cases hb

theorem eqN_ok {t u e : TypeId} (ht : P.underlying t = some (.slice e)) {op : BinOp} {b : Bool} (hop : (op = .eql ∧ b = true) ∨ (op = .neq ∧ b = false)) {x y : Operand} {f} (h : eqN b (opd x) (opd y) = .rd f) :
    RdOk P (.binOp op t x y u) f := by
  cases h
  intro fr h q out e hn
  obtain ⟨m, e, hm⟩ := slcNil_inv e hn
  obtain ⟨n, e, hn'⟩ := slcNil_inv e hn
  obtain ⟨hb, e⟩ := bif_yes e hn
  refine ⟨_, e, fun μ H w a o ho _ _ r => ?_⟩
  obtain ⟨p, _, _, hx, hp⟩ := hm (opd_rel r x)
  obtain ⟨s, _, _, hy, hs⟩ := hn' (opd_rel r y)
  refine eqs_of ho hx hy hop (guard_slc _ _ _ _ _ _ _ _ _ _ _) rfl rfl ?_
  cases p with
  | none =>
    rw [eq_slc_l ht]
    cases hp
    subst hs
    cases s <;> rfl
  | some p =>
    cases hp
    cases s with
    | none => cases hs; exact eq_slc_r ht p _ _ _ _ w
    | some s => cases hs; cases hb

/-- What is not a shift. -/
noncomputable def binR (op : BinOp) (t : TypeId) (x y : Vl) : OpC := match kd P t with
    | .i k => .rd fun fr _ q => (x.of fr).int? fun k1 a => (y.of fr).int? fun k2 b => bif? ((ib k op).of a b q) .no (ikEq k k1 && ikEq k k2)
    | .s => .rd fun fr _ q => (x.of fr).str? fun a => (y.of fr).str? fun b => (sb op).of a b q
    | .f .f64 => .rd fun fr _ q => (x.of fr).flt? fun k a => (y.of fr).flt? fun l b => match k, l with
      | .f64, .f64 => (fb op).of a b q
      | _, _ => .no
    | .b => match op with
      | .eql => eqB true x y
      | .neq => eqB false x y
      | _ => .no
    | .p _ => match op with
      | .eql => eqP true x y
      | .neq => eqP false x y
      | _ => .no
    | .sl _ => match op with
      | .eql => eqN true x y
      | .neq => eqN false x y
      | _ => .no
    | _ => .no

theorem bif_self {k1 k2 k : IntKind} (h : (ikEq k k1 && ikEq k k2) = true) : k1 = k ∧ k2 = k := by
  simp only [Bool.and_eq_true] at h
  exact ⟨(ikEq_eq h.1).symm, (ikEq_eq h.2).symm⟩

theorem binR_ok {op : BinOp} {t u : TypeId} {x y : Operand} {f} (h : binR (P := P) op t (opd x) (opd y) = .rd f) : RdOk P (.binOp op t x y u) f := by
  unfold binR at h
  cases hk : kd P t with
  | i k =>
    simp only [hk] at h
    cases h
    intro fr h q out e hn
    obtain ⟨k1, m, hm, e1⟩ := int?_inv e hn
    obtain ⟨k2, n, hn', e2⟩ := int?_inv e1 hn
    obtain ⟨hb, e3⟩ := bif_yes e2 hn
    obtain ⟨h1, h2⟩ := bif_self hb
    rw [h1] at hm
    rw [h2] at hn'
    obtain ⟨v, e4, H'⟩ := ib_ok P k k op t m n q out e3 hn (.inr (.inr rfl))
    refine ⟨v, e4, fun μ H w a o ho _ _ r => ?_⟩
    obtain ⟨z, hz, hr⟩ := H' μ w
    exact ⟨z, exec_bin ho (int_rel r hm) (int_rel r hn') (guard_int _ _ _ _ _ _ _ _ _) hz rfl, hr⟩
  | s =>
    simp only [hk] at h
    cases h
    intro fr h q out e hn
    obtain ⟨m, hm, e1⟩ := str?_inv e hn
    obtain ⟨n, hn', e2⟩ := str?_inv e1 hn
    obtain ⟨v, e4, H'⟩ := sb_ok P op t m n q out e2 hn
    refine ⟨v, e4, fun μ H w a o ho _ _ r => ?_⟩
    have hx := opd_rel r x
    rw [hm] at hx
    obtain ⟨b, hx, hb⟩ := str_inv hx
    have hy := opd_rel r y
    rw [hn'] at hy
    obtain ⟨c, hy, hc⟩ := str_inv hy
    obtain ⟨z, hz, hr⟩ := H' μ w b c hb hc
    exact ⟨z, exec_bin ho hx hy (guard_str _ _ _ _ _ _ _) hz rfl, hr⟩
  | f k =>
    simp only [hk] at h
    cases k with
    | f32 => cases h
    | f64 =>
      have h' : OpC.rd _ = .rd f := h
      cases h'
      intro fr h q out e hn
      obtain ⟨k, m, hm, e1⟩ := flt?_inv e hn
      obtain ⟨l, n, hn', e2⟩ := flt?_inv e1 hn
      cases k with
      | f32 => exact absurd e2.symm hn
      | f64 =>
        cases l with
        | f32 => exact absurd e2.symm hn
        | f64 =>
          obtain ⟨v, e4, H'⟩ := fb_ok P op t m n q out e2 hn
          refine ⟨v, e4, fun μ H w a o ho _ _ r => ?_⟩
          have hx := opd_rel r x
          rw [hm] at hx
          have hx : a.eval x = .float .f64 m := by generalize a.eval x = z at hx; cases hx; rfl
          have hy := opd_rel r y
          rw [hn'] at hy
          have hy : a.eval y = .float .f64 n := by generalize a.eval y = z at hy; cases hy; rfl
          obtain ⟨z, hz, hr⟩ := H' μ w
          exact ⟨z, exec_bin ho hx hy (guard_flt _ _ _ _ _ _ _ _ _) hz rfl, hr⟩
  | b =>
    simp only [hk] at h
    cases op with
    | eql => exact eqB_ok (und_b hk) (.inl ⟨rfl, rfl⟩) h
    | neq => exact eqB_ok (und_b hk) (.inr ⟨rfl, rfl⟩) h
    | _ => cases h
  | p e =>
    simp only [hk] at h
    cases op with
    | eql => exact eqP_ok (und_p hk) (.inl ⟨rfl, rfl⟩) h
    | neq => exact eqP_ok (und_p hk) (.inr ⟨rfl, rfl⟩) h
    | _ => cases h
  | sl e =>
    simp only [hk] at h
    cases op with
    | eql => exact eqN_ok (und_sl hk) (.inl ⟨rfl, rfl⟩) h
    | neq => exact eqN_ok (und_sl hk) (.inr ⟨rfl, rfl⟩) h
    | _ => cases h
  | _ => simp only [hk] at h; cases h

theorem oBin_ok (op : BinOp) (t u : TypeId) (x y : Operand) {f} (h : oBin op t x y u P = .rd f) : RdOk P (.binOp op t x y u) f := by
  cases op with
  | shl =>
    have h' : OpC.rd (fun fr _ q => ((opd x).of fr).int? fun k a => ((opd y).of fr).int? fun _ b => (ib k .shl).of a b q) = .rd f := h
    cases h'
    intro fr h q out e hn
    obtain ⟨k, m, hm, e1⟩ := int?_inv e hn
    obtain ⟨l, n, hn', e2⟩ := int?_inv e1 hn
    obtain ⟨v, e4, H'⟩ := ib_ok P k l .shl t m n q out e2 hn (.inl rfl)
    refine ⟨v, e4, fun μ H w a o ho _ _ r => ?_⟩
    obtain ⟨z, hz, hr⟩ := H' μ w
    exact ⟨z, exec_bin ho (int_rel r hm) (int_rel r hn') (guard_int _ _ _ _ _ _ _ _ _) hz rfl, hr⟩
  | shr =>
    have h' : OpC.rd (fun fr _ q => ((opd x).of fr).int? fun k a => ((opd y).of fr).int? fun _ b => (ib k .shr).of a b q) = .rd f := h
    cases h'
    intro fr h q out e hn
    obtain ⟨k, m, hm, e1⟩ := int?_inv e hn
    obtain ⟨l, n, hn', e2⟩ := int?_inv e1 hn
    obtain ⟨v, e4, H'⟩ := ib_ok P k l .shr t m n q out e2 hn (.inr (.inl rfl))
    refine ⟨v, e4, fun μ H w a o ho _ _ r => ?_⟩
    obtain ⟨z, hz, hr⟩ := H' μ w
    exact ⟨z, exec_bin ho (int_rel r hm) (int_rel r hn') (guard_int _ _ _ _ _ _ _ _ _) hz rfl, hr⟩
  | _ => exact binR_ok h

end
end Go.Proofs.YtlkbahknmbgjmaaGreat.Ev
