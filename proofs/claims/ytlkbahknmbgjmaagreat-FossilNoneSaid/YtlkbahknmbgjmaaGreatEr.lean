/-
  A region whose order is open: what its table says.
  No conditions.
-/
import Derived.Test.YtlkbahknmbgjmaaGreatEo
namespace Go.Proofs.YtlkbahknmbgjmaaGreat.Ev
open Go

section
variable {P : Program} {ops : List Oper}

theorem infs_get (ops : List Oper) (i : Nat) : (infs P ops)[i]? = (ops[i]?).map fun o => ⟨i, o, cls P o.op, (befs ops []).getD i 0⟩ := by
  unfold infs
  simp only [List.getElem?_map, List.getElem?_zipIdx]
  cases ops[i]? <;> simp
theorem infs_length (ops : List Oper) : (infs P ops).length = ops.length := by unfold infs; simp
theorem infs_at {i : Nat} {x : Inf} (h : (infs P ops)[i]? = some x) : x.i = i ∧ ops[i]? = some x.o ∧ x.cl = cls P x.o.op ∧ x.bef = (befs ops []).getD i 0 := by
  rw [infs_get] at h
  cases ho : ops[i]? with
  | none => rw [ho] at h; cases h
  | some o => rw [ho] at h; cases h; exact ⟨rfl, rfl, rfl, rfl⟩
theorem infs_mem {x : Inf} (h : x ∈ infs P ops) : (infs P ops)[x.i]? = some x := by
  obtain ⟨i, hi⟩ := List.getElem?_of_mem h
  rw [(infs_at hi).1]; exact hi

/-! ### What must have come up -/
def gbef (acc : List Nat) (o : Oper) : Nat := o.after.toList.foldl (fun s e => match Region.binds .any e with | true => s ||| 2 ^ e.on ||| acc.getD e.on 0 | false => s) 0
theorem befs_eq : ∀ (l : List Oper) (acc : List Nat), ∃ r, befs l acc = acc ++ r ∧ r.length = l.length ∧ ∀ i o, l[i]? = some o → r[i]? = some (gbef (acc ++ r.take i) o)
  | [], acc => ⟨[], by simp [befs], rfl, fun i o h => by simp at h⟩
  | o :: l, acc => by
    obtain ⟨r, h1, h2, h3⟩ := befs_eq l (acc ++ [gbef acc o])
    refine ⟨gbef acc o :: r, ?_, by simp [h2], fun i p h => ?_⟩
    · show befs l (acc ++ [gbef acc o]) = _
      rw [h1]; simp
    · cases i with
      | zero => simp only [List.getElem?_cons_zero, Option.some.injEq] at h; subst h; simp
      | succ i =>
        have := h3 i p (by simpa using h)
        simpa using this
theorem gbef_bit {acc : List Nat} {o : Oper} {j : Nat} (h : (gbef acc o).testBit j = true) : ∃ e ∈ o.after.toList, Region.binds .any e = true ∧ (j = e.on ∨ (acc.getD e.on 0).testBit j = true) := by
  have key : ∀ (l : List Edge) (s : Nat), (l.foldl (fun s e => match Region.binds .any e with | true => s ||| 2 ^ e.on ||| acc.getD e.on 0 | false => s) s).testBit j = true →
      s.testBit j = true ∨ ∃ e ∈ l, Region.binds .any e = true ∧ (j = e.on ∨ (acc.getD e.on 0).testBit j = true) := by
    intro l
    induction l with
    | nil => exact fun s h => .inl h
    | cons e l ih =>
      intro s h
      rw [List.foldl_cons] at h
      rcases ih _ h with h1 | ⟨e', h1, h2⟩
      · cases hb : Region.binds .any e with
        | false => rw [hb] at h1; exact .inl h1
        | true =>
          rw [hb] at h1
          simp only [Nat.testBit_or, Bool.or_eq_true] at h1
          rcases h1 with (h1 | h1) | h1
          · exact .inl h1
          · rw [Nat.testBit_two_pow] at h1
            exact .inr ⟨e, List.mem_cons_self, hb, .inl (of_decide_eq_true h1).symm⟩
          · exact .inr ⟨e, List.mem_cons_self, hb, .inr h1⟩
      · exact .inr ⟨e', List.mem_cons_of_mem _ h1, h2⟩
  rcases key _ 0 h with h | h
  · simp at h
  · exact h

/-- A set that holds the ground of each of its operations holds all that must have come up. -/
theorem bef_closed {S : Nat → Prop} (hS : ∀ i o, ops[i]? = some o → S i → ∀ e ∈ o.after.toList, Region.binds .any e = true → S e.on)
    (hlt : ∀ i o, ops[i]? = some o → ∀ e ∈ o.after.toList, Region.binds .any e = true → e.on < i) (i : Nat) : S i → ∀ j, ((befs ops []).getD i 0).testBit j = true → S j := by
  obtain ⟨r, h1, h2, h3⟩ := befs_eq ops []
  rw [h1]
  simp only [List.nil_append] at h3 ⊢
  induction i using Nat.strongRecOn with
  | _ i ih =>
    intro hi j hj
    cases ho : ops[i]? with
    | none =>
      have : r[i]? = none := by rw [List.getElem?_eq_none_iff] at ho ⊢; omega
      rw [List.getD_eq_getElem?_getD, this] at hj
      simp at hj
    | some o =>
      rw [List.getD_eq_getElem?_getD, h3 i o ho, Option.getD_some] at hj
      obtain ⟨e, he, hb, hj⟩ := gbef_bit hj
      have hlt' := hlt i o ho e he hb
      have hSe := hS i o ho hi e he hb
      rcases hj with hj | hj
      · subst hj; exact hSe
      · refine ih e.on hlt' hSe j ?_
        rw [List.getD_eq_getElem?_getD, List.getElem?_take, if_pos hlt', ← List.getD_eq_getElem?_getD] at hj
        exact hj

/-! ### What the proof asks -/
structure OkX (ops : List Oper) (all : List Inf) : Prop where
  edge : ∀ x ∈ all, ∀ e ∈ x.o.after.toList, Region.binds .any e = true → e.on < x.i
  guard : ∀ x ∈ all, guardOk ops x.i x.bef x.o.guard = true
  rdst : ∀ x ∈ all, x.cl = .r → x.o.dst.isSome = true
  turn : ∀ x ∈ all, ∀ y ∈ all, isW x.cl = true → isW y.cl = true → x.i < y.i → y.bef.testBit x.i = true
  one : ∀ x ∈ all, ∀ y ∈ all, ∀ d, x.o.dst = some d → y.o.dst = some d → x.i = y.i
  look : ∀ x ∈ all, ∀ y ∈ all, ∀ d, y.o.dst = some d → d ∈ looked ops x.o → (x.i = y.i ∧ isR x.cl = false) ∨ (y.i < x.i ∧ x.bef.testBit y.i = true) ∨ (x.i < y.i ∧ y.bef.testBit x.i = true ∧ isR x.cl = false)

theorem okD_ok {all : List Inf} (h : okD ops all = true) : OkX ops all := by
  have hx : ∀ x ∈ all, _ := fun x hx => List.all_eq_true.1 h x hx
  have hy : ∀ x ∈ all, ∀ y ∈ all, _ := fun x hx' y hy => List.all_eq_true.1 ((Bool.and_eq_true _ _ ▸ hx x hx').2) y hy
  refine ⟨fun x hm e he hb => ?_, fun x hm => ?_, fun x hm hr => ?_, fun x hm y hm' h1 h2 h3 => ?_, fun x hm y hm' d h1 h2 => ?_, fun x hm y hm' d h1 h2 => ?_⟩
  · have := hx x hm
    simp only [Bool.and_eq_true] at this
    have := List.all_eq_true.1 this.1.1.1.1 e he
    rw [hb] at this
    simp only [Bool.not_true, Bool.false_or, Nat.blt_eq] at this
    exact this
  · have := hx x hm
    simp only [Bool.and_eq_true] at this
    exact this.1.1.1.2
  · have := hx x hm
    simp only [Bool.and_eq_true] at this
    have := this.1.2
    rw [hr] at this; exact this
  · have := hy x hm y hm'
    simp only [Bool.and_eq_true] at this
    have := this.1.1
    rw [h1, h2, show Nat.blt x.i y.i = true by rw [Nat.blt_eq]; exact h3] at this
    simpa using this
  · have := hy x hm y hm'
    simp only [Bool.and_eq_true] at this
    have := this.1.2
    rw [h1, h2] at this
    simp only [Bool.or_eq_true] at this
    rcases this with h | h
    · exact Nat.eq_of_beq_eq_true h
    · have hd : Nat.beq d d = true := Nat.beq_refl d
      rw [hd] at h; cases h
  · have := hy x hm y hm'
    simp only [Bool.and_eq_true] at this
    have := this.2
    rw [h1] at this
    have hc : (tmpsOf x.o.op.operands.toList ++ guardT ops x.o.guard).contains d = true := by
      rw [List.contains_iff_mem]; exact h2
    simp only [hc, Bool.not_true, Bool.false_or, Bool.or_eq_true, Bool.and_eq_true, Nat.blt_eq, Bool.not_eq_true'] at this
    rcases this with (⟨h3, h4⟩ | ⟨h3, h4⟩) | ⟨⟨h3, h4⟩, h5⟩
    · exact .inl ⟨Nat.eq_of_beq_eq_true h3, h4⟩
    · exact .inr (.inl ⟨h3, h4⟩)
    · exact .inr (.inr ⟨h3, h4, h5⟩)

end
end Go.Proofs.YtlkbahknmbgjmaaGreat.Ev
