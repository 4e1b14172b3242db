/-
  A region whose order is open: its run in the order of the text, and what each operation's step there says of every memory and every order.
  No conditions.
-/
import Derived.Test.YtlkbahknmbgjmaaGreatEm
namespace Go.Proofs.YtlkbahknmbgjmaaGreat.Ev
open Go

/-! ### Surely one value -/
theorem sEq_inv : ∀ {a b : List Nat}, sEq a b = true → a = b
  | [], [], _ => rfl
  | [], _ :: _, h => by cases h
  | _ :: _, [], h => by cases h
  | x :: a, y :: b, h => by
    have h : sel (sEq a b) false (Nat.beq x y) = true := h
    cases hb : Nat.beq x y with
    | false => rw [hb] at h; cases h
    | true =>
      rw [hb] at h
      have h : sEq a b = true := h
      rw [Nat.eq_of_beq_eq_true hb, sEq_inv h]
theorem eqb1_inv {x y : AV} (h : eqb1 x y = true) : x = y := by
  unfold eqb1 at h
  split at h
  · simp only [Bool.and_eq_true] at h
    have h2 := h.2
    rw [iEq_eq] at h2
    rw [ikEq_eq h.1, of_decide_eq_true h2]
  · rw [eq_of_beq h]
  · simp only [Bool.and_eq_true] at h
    rw [Nat.eq_of_beq_eq_true h.1, Nat.eq_of_beq_eq_true h.2]
  · simp only [Bool.and_eq_true] at h
    obtain ⟨⟨⟨⟨h1, h2⟩, h3⟩, h4⟩, h5⟩ := h
    rw [Nat.eq_of_beq_eq_true h1, Nat.eq_of_beq_eq_true h2, Nat.eq_of_beq_eq_true h3, Nat.eq_of_beq_eq_true h4, eq_of_beq h5]
  · rw [sEq_inv h]
  · rfl
  · rfl
  · rfl
  · rfl
  · rw [Nat.eq_of_beq_eq_true h]
  · rw [Nat.eq_of_beq_eq_true h]
  · cases h
theorem eqbL_inv : ∀ {a b : List AV}, eqbL a b = true → a = b
  | [], [], _ => rfl
  | [], _ :: _, h => by cases h
  | _ :: _, [], h => by cases h
  | x :: a, y :: b, h => by
    have h : (eqb1 x y && eqbL a b) = true := h
    simp only [Bool.and_eq_true] at h
    rw [eqb1_inv h.1, eqbL_inv h.2]
theorem eqb_inv {x y : AV} (h : eqb x y = true) : x = y := by
  unfold eqb at h
  split at h
  · rw [eqbL_inv h]
  · exact eqb1_inv h

/-! ### A frame with these slots only -/
theorem lt250 {t : Nat} (h : Nat.blt t 250 = true) : t < 250 := Nat.blt_eq ▸ h
theorem of_lt250 {t : Nat} (h : t < 250) : Nat.blt t 250 = true := by rw [Nat.blt_eq]; exact h
noncomputable def only (fr : F) : List Nat → F
  | [] => F.all .top
  | t :: l => sel ((fput t).put ((fget t).get fr) (only fr l)) (only fr l) (Nat.blt t 250)
theorem only_cons_lt {fr : F} {t : Nat} (l : List Nat) (h : t < 250) : only fr (t :: l) = (fput t).put ((fget t).get fr) (only fr l) := by
  show sel _ _ (Nat.blt t 250) = _
  rw [show Nat.blt t 250 = true from of_lt250 h]; rfl
theorem only_cons_ge {fr : F} {t : Nat} (l : List Nat) (h : ¬ t < 250) : only fr (t :: l) = only fr l := by
  show sel _ _ (Nat.blt t 250) = _
  cases hb : Nat.blt t 250 with
  | true => exact absurd (lt250 hb) h
  | false => rfl
theorem only_in {fr : F} {l : List Nat} {t : Nat} (h : t ∈ l) (ht : t < 250) : (fget t).get (only fr l) = (fget t).get fr := by
  induction l with
  | nil => cases h
  | cons x l ih =>
    by_cases e : t = x
    · subst e
      rw [only_cons_lt l ht]; exact fget_fput t (by omega) _ _
    · have hm : t ∈ l := by
        cases h with
        | head => exact absurd rfl e
        | tail _ h => exact h
      by_cases hx : x < 250
      · rw [only_cons_lt l hx, fget_fput_ne x t (by omega) (by omega) e]; exact ih hm
      · rw [only_cons_ge l hx]; exact ih hm
theorem only_out {fr : F} {l : List Nat} {t : Nat} (h : t ∉ l) (ht : t < 250) : (fget t).get (only fr l) = .top := by
  induction l with
  | nil => exact fget_all t (by omega) _
  | cons x l ih =>
    have e : t ≠ x := fun e => h (e ▸ List.mem_cons_self)
    have hm : t ∉ l := fun h' => h (List.mem_cons_of_mem _ h')
    by_cases hx : x < 250
    · rw [only_cons_lt l hx, fget_fput_ne x t (by omega) (by omega) e]; exact ih hm
    · rw [only_cons_ge l hx]; exact ih hm
theorem only_eq {fr fr' : F} {l : List Nat} (h : ∀ t ∈ l, t < 250 → (fget t).get fr = (fget t).get fr') : only fr l = only fr' l := by
  induction l with
  | nil => rfl
  | cons x l ih =>
    have hl := ih fun t ht => h t (List.mem_cons_of_mem _ ht)
    by_cases hx : x < 250
    · rw [only_cons_lt l hx, only_cons_lt l hx, hl, h x List.mem_cons_self hx]
    · rw [only_cons_ge l hx, only_cons_ge l hx, hl]
theorem only_FR {μ : Mp} {fr : F} {l : List Nat} {tmps : Array Value} (h : ∀ t ∈ l, t < 250 → VR μ ((fget t).get fr) (tmps.getD t undef)) : FR μ (only fr l) tmps := fun t ht => by
  by_cases e : t ∈ l
  · rw [only_in e ht]; exact h t e ht
  · rw [only_out e ht]; exact .top _
theorem opd_only {fr : F} {l : List Nat} {x : Operand} (h : ∀ t, x = .tmp t → t ∈ l) : (opd x).of (only fr l) = (opd x).of fr := by
  cases x with
  | tmp t =>
    show ((match Nat.blt t 250 with | true => (⟨(fget t).get⟩ : Vl) | false => ⟨fun _ => .top⟩).of (only fr l)) = ((match Nat.blt t 250 with | true => (⟨(fget t).get⟩ : Vl) | false => ⟨fun _ => .top⟩).of fr)
    cases hb : Nat.blt t 250 with
    | false => rfl
    | true => exact only_in (h t rfl) (lt250 hb)
  | const v => rfl
  | global g => rfl
  | func f => rfl

/-- The slots that an operation looks at. -/
def looked (ops : List Oper) (o : Oper) : List Nat := tmpsOf o.op.operands.toList ++ guardT ops o.guard

theorem mem_tmpsOf {l : List Operand} {t : Tmp} (h : Operand.tmp t ∈ l) : t ∈ tmpsOf l := List.mem_filterMap.2 ⟨_, h, rfl⟩

theorem only_alike (ops : List Oper) (o : Oper) (fr : F) : Alike fr (only fr (looked ops o)) o.op.operands.toList := fun x hx => by
  refine (opd_only fun t ht => ?_).symm
  subst ht
  exact List.mem_append_left _ (mem_tmpsOf hx)

/-! ### Guards, once more -/
noncomputable def wantsB (ops : List Oper) (g : Option (Nat × Bool)) (fr : F) : Option Bool := match g with
  | none => some true
  | some (j, want) => match (guardV ops j).of fr with
    | .bool b => some (b == want)
    | .tup [] => some false
    | _ => none

theorem wants_eq (ops : List Oper) (g : Option (Nat × Bool)) (fr : F) (x y : Out) : (wants ops g).of fr x y = match wantsB ops g fr with | some true => x | some false => y | none => .no := by
  cases g with
  | none => rfl
  | some p =>
    obtain ⟨j, want⟩ := p
    unfold wants wantsB
    dsimp only
    cases (guardV ops j).of fr with
    | bool b =>
      dsimp only
      cases (b == want) <;> rfl
    | tup l => cases l <;> rfl
    | _ => rfl

theorem guardV_only (ops : List Oper) (j : Nat) (b : Bool) (fr : F) {l : List Nat} (hl : ∀ t ∈ guardT ops (some (j, b)), t ∈ l) : (guardV ops j).of (only fr l) = (guardV ops j).of fr := by
  unfold guardV
  unfold guardT at hl
  cases h : ops[j]? with
  | none => rfl
  | some q =>
    simp only [h] at hl
    cases hd : q.dst with
    | none => simp only [hd]
    | some d =>
      simp only [hd]
      exact opd_only fun t ht => by cases ht; exact hl d (by simp [hd])

theorem wantsB_only (ops : List Oper) (g : Option (Nat × Bool)) (fr : F) {l : List Nat} (hl : ∀ t ∈ guardT ops g, t ∈ l) : wantsB ops g (only fr l) = wantsB ops g fr := by
  cases g with
  | none => rfl
  | some p =>
    obtain ⟨j, want⟩ := p
    unfold wantsB
    dsimp only
    rw [guardV_only ops j want fr hl]

theorem wantsB_ok {ops : List Oper} {o : Oper} {fr : F} {wt : Bool} (h : wantsB ops o.guard fr = some wt) : ∀ (μ : Mp) (tmps : Array Value), FR μ (only fr (looked ops o)) tmps → Region.wanted o (yielded ops.toArray tmps) = wt := fun μ tmps r => by
  have hb : wantsB ops o.guard (only fr (looked ops o)) = some wt := by rw [wantsB_only ops o.guard fr (l := looked ops o) fun t ht => List.mem_append_right _ ht]; exact h
  have e := wants_eq ops o.guard (only fr (looked ops o)) (.nrm fr h0) (.ret fr h0)
  rw [hb] at e
  cases wt with
  | true =>
    rcases wants_ok e (by simp) r with ⟨h1, _⟩ | ⟨_, h2⟩
    · exact h1
    · cases h2
  | false =>
    rcases wants_ok e (by simp) r with ⟨_, h2⟩ | ⟨h1, _⟩
    · cases h2
    · exact h1

section
variable {P : Program}

/-! ### What a step says -/
/-- Wherever H lies the operation yields v. -/
def Reads (P : Program) (op : Op) (g : F) (H : Hp) (v : AV) : Prop :=
  ∀ (μ : Mp) (K : Hp) (w : World) (a : Act) (o : Oper), o.op = op → Sub H K → Rel μ K w → FR μ g a.tmps → ∃ u, (execOp a.eval o).run P w = .ok (.value u) w ∧ VR μ v u
def Makes (P : Program) (op : Op) (g : F) (id : Nat) (v : AV) (k : Blk) : Prop :=
  ∀ (μ : Mp) (w : World) (a : Act) (o : Oper), o.op = op → FR μ g a.tmps → μ id = none →
    ∃ u w' m x, (execOp a.eval o).run P w = .ok (.value u) w' ∧ New w w' x ∧ m.blk = w.heap.size ∧ BR (upd μ id m) w' k m ∧ VR (upd μ id m) v u
def Turns (P : Program) (op : Op) (g : F) (h : Hp) (v : AV) (h' : Hp) : Prop :=
  ∀ (μ : Mp) (w : World) (a : Act) (o : Oper) (next : Act → World → Prop) (Q : Exit → Act → World → Prop), o.op = op → Rel μ h w → FR μ g a.tmps →
    (∀ ν u w', Stp μ h w ν h' w' → VR ν v u → next (a.put o.dst u) w') → o.wp P a w next Q

theorem reads_of {ops : List Oper} {o : Oper} {f : F → Hp → (AV → Out) → Out} (hop : opC o.op P = .rd f) {fr : F} {h : Hp} {q : AV → Out} {out : Out} (e : f fr h q = out) (hn : out ≠ .no) :
    ∃ v, q v = out ∧ Reads P o.op (only fr (looked ops o)) h v := by
  rw [rd_congr hop (only_alike ops o fr)] at e
  obtain ⟨v, e1, H⟩ := opC_rd hop _ _ _ _ e hn
  exact ⟨v, e1, fun μ K w a o' ho hs hr r => H μ K w a o' ho hs hr r⟩

structure Tr where
  fr : F
  h : Hp
  hs : List Hp
structure Sp where
  v : AV
  wt : Bool
  k : Blk

/-- The readers before x that the writer x does not wait for read now what they read. -/
def Later (P : Program) (ops : List Oper) (all : List Inf) (x : Inf) (t : Tr) : Prop :=
  ∀ y ∈ all, isR y.cl = true → y.i < x.i → x.bef.testBit y.i = false → wantsB ops y.o.guard t.fr = some true →
    Reads P y.o.op (only t.fr (looked ops y.o)) t.h ((opd (.tmp (y.o.dst.getD 0))).of t.fr)

def Does (P : Program) (ops : List Oper) (all : List Inf) (b : Nat) (x : Inf) (t : Tr) (s : Sp) (t' : Tr) : Prop := match x.cl with
  | .p => t'.h = t.h ∧ Reads P x.o.op (only t.fr (looked ops x.o)) h0 s.v
  | .r => t'.h = t.h ∧ Reads P x.o.op (only t.fr (looked ops x.o)) t.h s.v ∧ ∀ j, j < countW all x - countB all x → ∃ K, t.hs[j]? = some K ∧ Reads P x.o.op (only t.fr (looked ops x.o)) K s.v
  | .a => t'.h = t.h.at (b + countA all x) s.k ∧ Makes P x.o.op (only t.fr (looked ops x.o)) (b + countA all x) s.v s.k
  | .w => Turns P x.o.op (only t.fr (looked ops x.o)) t.h s.v t'.h ∧ Later P ops all x t'
  | .d => False

structure StepOk (P : Program) (nt : Nat) (ops : List Oper) (all : List Inf) (b : Nat) (x : Inf) (t : Tr) (s : Sp) (t' : Tr) : Prop where
  dst : dstOk nt x.o.dst = true
  fr : t'.fr = (Ev.dst x.o.dst).put s.v t.fr
  hs : t'.hs = if isW x.cl then t.h :: t.hs else t.hs
  wts : wantsB ops x.o.guard t.fr = some s.wt
  skip : s.wt = false → s.v = .tup [] ∧ t'.h = t.h
  does : s.wt = true → Does P ops all b x t s t'

theorem past_ok {ops : List Oper} {o : Oper} {f : F → Hp → (AV → Out) → Out} (hop : opC o.op P = .rd f) {fr : F} {v : AV} {q : Out} {out : Out} (hn : out ≠ .no) : ∀ {n : Nat} {hs : List Hp}, past f fr v q n hs = out →
    q = out ∧ ∀ j, j < n → ∃ K, hs[j]? = some K ∧ Reads P o.op (only fr (looked ops o)) K v
  | 0, hs, e => ⟨by cases hs <;> exact e, fun j hj => by omega⟩
  | n + 1, [], e => absurd e.symm hn
  | n + 1, h :: hs, e => by
    have e : f fr h (fun u => bif? (past f fr v q n hs) .no (eqb u v)) = out := e
    obtain ⟨u, e1, H⟩ := reads_of (ops := ops) hop e hn
    obtain ⟨hb, e2⟩ := bif_yes e1 hn
    have := eqb_inv hb
    subst this
    obtain ⟨e3, H'⟩ := past_ok hop hn e2
    refine ⟨e3, fun j hj => ?_⟩
    cases j with
    | zero => exact ⟨h, rfl, H⟩
    | succ j => simpa using H' j (by omega)

theorem later_ok {ops : List Oper} {fr : F} {h : Hp} {q : Out} {out : Out} (hn : out ≠ .no) : ∀ {l : List Inf}, later P ops fr h q l = out → (∀ y ∈ l, ∃ f, opC y.o.op P = .rd f) →
    q = out ∧ ∀ y ∈ l, wantsB ops y.o.guard fr = some true → Reads P y.o.op (only fr (looked ops y.o)) h ((opd (.tmp (y.o.dst.getD 0))).of fr)
  | [], e, _ => ⟨e, fun _ h => by cases h⟩
  | x :: l, e, hr => by
    obtain ⟨f, hop⟩ := hr x List.mem_cons_self
    have e : (wants ops x.o.guard).of fr (rdOf (opC x.o.op P) fr h fun u => bif? (later P ops fr h q l) .no (eqb u ((opd (.tmp (x.o.dst.getD 0))).of fr))) (later P ops fr h q l) = out := e
    rw [wants_eq, hop] at e
    have rest : later P ops fr h q l = out → _ := fun e => later_ok hn e fun y hy => hr y (List.mem_cons_of_mem _ hy)
    cases hw : wantsB ops x.o.guard fr with
    | none => rw [hw] at e; exact absurd e.symm hn
    | some b =>
      rw [hw] at e
      cases b with
      | false =>
        obtain ⟨e1, H⟩ := rest e
        refine ⟨e1, fun y hy hyw => ?_⟩
        cases hy with
        | head => rw [hw] at hyw; cases hyw
        | tail _ hy => exact H y hy hyw
      | true =>
        obtain ⟨u, e1, H0⟩ := reads_of (ops := ops) hop e hn
        obtain ⟨hb, e2⟩ := bif_yes e1 hn
        have := eqb_inv hb
        subst this
        obtain ⟨e3, H⟩ := rest e2
        refine ⟨e3, fun y hy hyw => ?_⟩
        cases hy with
        | head => exact H0
        | tail _ hy => exact H y hy hyw

end
end Go.Proofs.YtlkbahknmbgjmaaGreat.Ev
