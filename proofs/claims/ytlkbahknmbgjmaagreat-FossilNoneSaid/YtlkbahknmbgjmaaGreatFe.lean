/-
  A run in parts: what is kept between them.
  No conditions.
-/
import Derived.Test.YtlkbahknmbgjmaaGreatFc
namespace Go.Proofs.YtlkbahknmbgjmaaGreat.Ev
open Go Go.RowKit

/-! ### What is kept -/
noncomputable def keepT (f : Nat → Bo) (ids : List Nat) : QT Bo 8 := List.rec (motive := fun _ => QT Bo 8) (QT.all .no 8) (fun b _ t => (puts Bo 8 b).put (f b) t) ids
noncomputable def keepH (ids : List Nat) (h : Hp) : Hp := ⟨h.next, keepT h.get ids⟩
noncomputable def keepS (fr : F) (l : List Nat) : F := List.rec (motive := fun _ => F) (F.all .top) (fun t _ g => (fput t).put ((fget t).get fr) g) l
/-- The heap with these blocks alone, the frame with these slots alone (255: what is deferred). -/
noncomputable def keepO (slots ids : List Nat) (o : Out) : Out := Out.rec (motive := fun _ => Out) .no (fun fr h => .nrm (keepS fr (255 :: slots)) (keepH ids h)) (fun _ _ _ => .no) (fun _ _ => .no) o

theorem keepT_get (f : Nat → Bo) {c : Nat} (hc : c < 65536) : ∀ (ids : List Nat), (∀ b ∈ ids, b < 65536) → (gets Bo 8 c).get (keepT f ids) = if c ∈ ids then f c else .no
  | [], _ => gets_all Bo .no 8 c
  | b :: l, h => by
    have hb := h b List.mem_cons_self
    have ih := keepT_get f hc l fun x hx => h x (List.mem_cons_of_mem _ hx)
    show (gets Bo 8 c).get ((puts Bo 8 b).put (f b) (keepT f l)) = _
    by_cases e : c = b
    · subst e; rw [gets_puts, if_pos List.mem_cons_self]
    · rw [gets_puts_ne Bo 8 b c (f b) _ hb hc e, ih]
      simp only [List.mem_cons, e, false_or]
theorem keepH_get {ids : List Nat} (h : Hp) (hi : ∀ b ∈ ids, b < 65536) {c : Nat} (hc : c < 65536) : (keepH ids h).get c = if c ∈ ids then h.get c else .no := keepT_get h.get hc ids hi

theorem keepS_get (fr : F) {t : Nat} (ht : t < 256) : ∀ (l : List Nat), (∀ s ∈ l, s < 256) → (fget t).get (keepS fr l) = if t ∈ l then (fget t).get fr else .top
  | [], _ => fget_all t ht _
  | s :: l, h => by
    have hs := h s List.mem_cons_self
    have ih := keepS_get fr ht l fun x hx => h x (List.mem_cons_of_mem _ hx)
    show (fget t).get ((fput s).put ((fget s).get fr) (keepS fr l)) = _
    by_cases e : t = s
    · subst e; rw [fget_fput t ht, if_pos List.mem_cons_self]
    · rw [fget_fput_ne s t hs ht e, ih]
      simp only [List.mem_cons, e, false_or]

/-- From nothing to here. -/
def Sit (nt : Nat) (w0 : World) (fr : F) (g : Hp) (a : Act) (u : World) : Prop := ∃ ν, Stp (fun _ => none) h0 w0 ν g u ∧ St nt ν fr a

theorem Sit.keep {nt : Nat} {w0 : World} {fr : F} {g : Hp} {a : Act} {u : World} (s : Sit nt w0 fr g a u) {slots ids : List Nat} (hs : ∀ t ∈ slots, t < 256) (hi : ∀ b ∈ ids, b < 65536) :
    Sit nt w0 (keepS fr (255 :: slots)) (keepH ids g) a u := by
  obtain ⟨ν, s, r⟩ := s
  have hs' : ∀ t ∈ 255 :: slots, t < 256 := fun t ht => by
    cases ht with
    | head => omega
    | tail _ h => exact hs t h
  have hsub : Sub (keepH ids g) g := fun c k hk => by
    rw [← get_mod] at hk ⊢
    rw [keepH_get g hi (Nat.mod_lt _ (by decide))] at hk
    split at hk
    · exact hk
    · cases hk
  refine ⟨ν, ?_, fun t ht => ?_, r.size, ?_⟩
  · exact {
      le := s.le
      new := s.new
      rel := s.rel.sub hsub rfl
      next := s.next
      same := fun b hb => absurd (show b < 0 from hb) (Nat.not_lt_zero b)
      live := fun b k m _ h => by cases h
      foot := s.foot
      os := s.os
      tape := s.tape
      output := s.output
      size := s.size }
  · rw [keepS_get fr (by omega) _ hs']
    split
    · exact r.frr t ht
    · exact .top _
  · rw [keepS_get fr (by omega) _ hs', if_pos List.mem_cons_self]
    exact r.dr

theorem Sit.start (nt : Nat) (w : World) {a : Act} {fr : F} (s : St nt (fun _ => none) fr a) : Sit nt w fr h0 a w := ⟨_, Stp.refl (Rel.start w), s⟩

section
variable {P : Program} {nt : Nat} {w0 : World} {Q : Exit → Act → World → Prop} {next : Act → World → Prop}

/-- What an outcome says, told from the start. -/
def Told (nt : Nat) (w0 : World) (Q : Exit → Act → World → Prop) : Out → Prop
  | .no => False
  | .nrm fr g => ∀ a u, Sit nt w0 fr g a u → Q .normal a u
  | .exi id fr g => ∀ a u, Sit nt w0 fr g a u → Q (.exit id) a u
  | .ret fr g => ∀ a u, Sit nt w0 fr g a u → Q .ret a u

theorem Told.ends {o : Out} (e : Told nt w0 Q o) {ν : Mp} {g : Hp} {u : World} (s : Stp (fun _ => none) h0 w0 ν g u) : Ends nt ν g u Q o := by
  cases o with
  | no => exact e
  | nrm fr h => exact fun ξ a t s' r => e a t ⟨ξ, s.trans s', r⟩
  | exi id fr h => exact fun ξ a t s' r => e a t ⟨ξ, s.trans s', r⟩
  | ret fr h => exact fun ξ a t s' r => e a t ⟨ξ, s.trans s', r⟩

/-- A part of a run. -/
theorem part_run {k : F → Hp → Out} (hk : Nexts nt Q next k) {fr : F} {g : Hp} {a : Act} {u : World} (s : Sit nt w0 fr g a u) (e : Told nt w0 Q (k fr g)) : next a u := by
  obtain ⟨ν, s, r⟩ := s
  exact hk fr g ν a u s.rel r (e.ends s)

/-- A part that ends in what is told. -/
theorem Told.kept {o : Out} {slots ids : List Nat} {fr : F} {g : Hp} (hs : ∀ t ∈ slots, t < 256) (hi : ∀ b ∈ ids, b < 65536) (h : keepO slots ids o = .nrm fr g) (e : ∀ a u, Sit nt w0 fr g a u → Q .normal a u) : Told nt w0 Q o := by
  cases o with
  | no => cases h
  | exi id fr' g' => cases h
  | ret fr' g' => cases h
  | nrm fr' g' =>
    have h : Out.nrm (keepS fr' (255 :: slots)) (keepH ids g') = .nrm fr g := h
    injection h with h1 h2
    intro a u s
    have := s.keep hs hi
    rw [h1, h2] at this
    exact e a u this

/-- A row of operations in two parts. -/
theorem wpList_append {ops : Array Oper} : ∀ (l1 l2 : List Oper) (a : Act) (w : World), wpList P ops (Exit.then (wpList P ops Q l2) Q) l1 a w → wpList P ops Q (l1 ++ l2) a w
  | [], l2, a, w, h => h
  | o :: l1, l2, a, w, h => by
    have hl : LetsOut (Exit.then (wpList P ops Q l2) Q) = LetsOut Q := rfl
    rw [List.cons_append]
    unfold wpList at h ⊢
    split at h
    · rename_i hw
      rw [if_pos hw]
      rcases h with h | h
      · refine .inl ?_
        have h1 : o.wp P a w (wpList P ops Q (l1 ++ l2)) (Exit.then (wpList P ops Q l2) Q) := Oper.wp_mono (fun a w => wpList_append l1 l2 a w) h
        unfold Oper.wp at h1 ⊢
        generalize (execOp a.eval o).run P w = r at h1 ⊢
        cases r with
        | ok n w' =>
          cases n <;> first | exact h1 | (exact Calls.mono h1 fun e w'' he => by cases e <;> exact he)
        | halt x w' => cases x <;> exact h1
      · exact .inr (by rw [← hl]; exact h)
    · rename_i hw
      rw [if_neg hw]
      exact wpList_append l1 l2 _ w h

end
end Go.Proofs.YtlkbahknmbgjmaaGreat.Ev
