/-
  A run in parts: the state between them, written out.
  No conditions.
-/
import Derived.Test.YtlkbahknmbgjmaaGreatFh
namespace Go.Proofs.YtlkbahknmbgjmaaGreat.Ev
open Go Go.RowKit

/-! ### Are they one? -/
noncomputable def eqA (x y : AV) : Bool := match y with
  | .top => match x with
    | .top => true
    | _ => false
  | .sc => match x with
    | .sc => true
    | _ => false
  | _ => eqb1 x y
noncomputable def eqR (x y : List AV) : Bool :=
  List.rec (motive := fun _ => List AV → Bool) (fun y => List.rec (motive := fun _ => Bool) true (fun _ _ _ => false) y)
    (fun a _ ih y => List.rec (motive := fun _ => Bool) false (fun b y _ => sel (ih y) false (eqA a b)) y) x y
noncomputable def eqV (x y : AV) : Bool := match y with
  | .tup l => match x with
    | .tup m => eqR m l
    | _ => false
  | .agg l => match x with
    | .agg m => eqR m l
    | _ => false
  | _ => eqA x y

theorem eqA_inv {x y : AV} (h : eqA x y = true) : x = y := by
  unfold eqA at h
  split at h
  · split at h
    · rfl
    · cases h
  · split at h
    · rfl
    · cases h
  · exact eqb1_inv h
theorem eqR_inv : ∀ {x y : List AV}, eqR x y = true → x = y
  | [], [], _ => rfl
  | [], _ :: _, h => by cases h
  | _ :: _, [], h => by cases h
  | a :: x, b :: y, h => by
    have h : sel (eqR x y) false (eqA a b) = true := h
    cases hb : eqA a b with
    | false => rw [hb] at h; cases h
    | true =>
      rw [hb] at h
      rw [eqA_inv hb, eqR_inv (show eqR x y = true from h)]
theorem eqV_inv {x y : AV} (h : eqV x y = true) : x = y := by
  unfold eqV at h
  split at h
  · split at h
    · rw [eqR_inv h]
    · cases h
  · split at h
    · rw [eqR_inv h]
    · cases h
  · exact eqA_inv h

structure Eq2 (α : Type) (n : Nat) where
  of : QT α n → QT α n → Bool
noncomputable def eqQ (α : Type) (f : α → α → Bool) (n : Nat) : Eq2 α n :=
  Nat.rec (motive := fun n => Eq2 α n) ⟨f⟩ (fun n ih => ⟨fun s t => Q.rec (motive := fun _ => Bool) (fun a b c d => Q.rec (motive := fun _ => Bool) (fun a' b' c' d' =>
    sel (sel (sel (ih.of d d') false (ih.of c c')) false (ih.of b b')) false (ih.of a a')) t) s⟩) n
theorem sel_and {a b : Bool} (h : sel a false b = true) : a = true ∧ b = true := by
  cases b with
  | false => cases h
  | true => exact ⟨h, rfl⟩
theorem eqQ_inv {α : Type} {f : α → α → Bool} (hf : ∀ x y, f x y = true → x = y) : ∀ (n : Nat) {s t : QT α n}, (eqQ α f n).of s t = true → s = t
  | 0, s, t, h => hf s t h
  | n + 1, ⟨a, b, c, d⟩, ⟨a', b', c', d'⟩, h => by
    have h : sel (sel (sel ((eqQ α f n).of d d') false ((eqQ α f n).of c c')) false ((eqQ α f n).of b b')) false ((eqQ α f n).of a a') = true := h
    obtain ⟨h, h1⟩ := sel_and h
    obtain ⟨h, h2⟩ := sel_and h
    obtain ⟨h4, h3⟩ := sel_and h
    rw [eqQ_inv hf n h1, eqQ_inv hf n h2, eqQ_inv hf n h3, eqQ_inv hf n h4]

noncomputable def eqC (x y : Cs) : Bool := match y with
  | .li l => match x with
    | .li m => eqR m l
    | _ => false
  | .m t => match x with
    | .m s => (eqQ AV eqA 4).of s t
    | _ => false
  | .l t => match x with
    | .l s => (eqQ AV eqA 6).of s t
    | _ => false
  | .ch e t => match x with
    | .ch d s => sel ((eqQ (List AV) eqR 6).of s t) false (Nat.beq d e)
    | _ => false
theorem eqC_inv {x y : Cs} (h : eqC x y = true) : x = y := by
  unfold eqC at h
  split at h
  · split at h
    · rw [eqR_inv h]
    · cases h
  · split at h
    · rw [eqQ_inv (fun _ _ => eqA_inv) _ h]
    · cases h
  · split at h
    · rw [eqQ_inv (fun _ _ => eqA_inv) _ h]
    · cases h
  · split at h
    · obtain ⟨h1, h2⟩ := sel_and h
      rw [eqQ_inv (fun _ _ => eqR_inv) _ h1, Nat.eq_of_beq_eq_true h2]
    · cases h
noncomputable def eqK (x y : Blk) : Bool := sel (eqC x.cs y.cs) false (Nat.beq x.size y.size && Nat.beq x.es y.es && (x.gr == y.gr) && (x.sb == y.sb))
theorem eqK_inv {x y : Blk} (h : eqK x y = true) : x = y := by
  obtain ⟨h1, h2⟩ := sel_and h
  simp only [Bool.and_eq_true] at h2
  obtain ⟨⟨⟨a, b⟩, c⟩, d⟩ := h2
  cases x; cases y
  simp only [Blk.mk.injEq]
  exact ⟨Nat.eq_of_beq_eq_true a, Nat.eq_of_beq_eq_true b, eq_of_beq c, eq_of_beq d, eqC_inv h1⟩

/-! ### A state written out -/
noncomputable def litF (l : List (Nat × AV)) : F := List.rec (motive := fun _ => F) ((fput 255).put (.tup []) (F.all .top)) (fun p _ g => (fput p.1).put p.2 g) l
noncomputable def litT (l : List (Nat × Blk)) : QT Bo 8 := List.rec (motive := fun _ => QT Bo 8) (QT.all .no 8) (fun p _ t => (puts Bo 8 p.1).put (.of p.2) t) l
noncomputable def litH (n : Nat) (l : List (Nat × Blk)) : Hp := ⟨n, litT l⟩

noncomputable def chkF (fr : F) (l : List (Nat × AV)) : Bool := List.rec (motive := fun _ => Bool) (eqV ((fget 255).get fr) (.tup [])) (fun p _ ih => sel ih false (eqV ((fget p.1).get fr) p.2 && Nat.blt p.1 250)) l
noncomputable def isK (b : Bo) (k : Blk) : Bool := match b with
  | .no => false
  | .of j => eqK j k
noncomputable def chkT (h : Hp) (l : List (Nat × Blk)) : Bool := List.rec (motive := fun _ => Bool) true (fun p _ ih => sel ih false (isK (h.get p.1) p.2 && Nat.blt p.1 65536)) l
/-- The outcome is this state, and more. -/
noncomputable def chk (fs : List (Nat × AV)) (n : Nat) (bs : List (Nat × Blk)) (o : Out) : Bool :=
  Out.rec (motive := fun _ => Bool) false (fun fr h => sel (sel (chkT h bs) false (chkF fr fs)) false (Nat.beq h.next n)) (fun _ _ _ => false) (fun _ _ => false) o

theorem litF_get (fr : F) : ∀ (l : List (Nat × AV)), chkF fr l = true → ∀ t < 256, (fget t).get (litF l) = (fget t).get fr ∨ ((fget t).get (litF l) = .top ∧ t ≠ 255)
  | [], h, t, ht => by
    have h : eqV ((fget 255).get fr) (.tup []) = true := h
    show (fget t).get ((fput 255).put (.tup []) (F.all .top)) = _ ∨ _
    by_cases e : t = 255
    · subst e; exact .inl (by rw [fget_fput 255 (by omega), eqV_inv h])
    · exact .inr ⟨by
        show (fget t).get ((fput 255).put (.tup []) (F.all .top)) = _
        rw [fget_fput_ne 255 t (by omega) ht e, fget_all t ht], e⟩
  | p :: l, h, t, ht => by
    have h : sel (chkF fr l) false (eqV ((fget p.1).get fr) p.2 && Nat.blt p.1 250) = true := h
    obtain ⟨h1, h2⟩ := sel_and h
    simp only [Bool.and_eq_true] at h2
    have hp := lt250 h2.2
    have ih := litF_get fr l h1 t ht
    have e0 : litF (p :: l) = (fput p.1).put p.2 (litF l) := rfl
    rw [e0]
    by_cases e : t = p.1
    · subst e; exact .inl (by rw [fget_fput p.1 ht, ← eqV_inv h2.1])
    · rw [fget_fput_ne p.1 t (by omega) ht e]; exact ih

theorem litT_get (h : Hp) : ∀ (l : List (Nat × Blk)), chkT h l = true → ∀ c < 65536, ∀ k, (gets Bo 8 c).get (litT l) = .of k → h.get c = .of k
  | [], _, c, hc, k, hk => by
    have : (gets Bo 8 c).get (QT.all .no 8) = .of k := hk
    rw [gets_all] at this; cases this
  | p :: l, h0, c, hc, k, hk => by
    have h0 : sel (chkT h l) false (isK (h.get p.1) p.2 && Nat.blt p.1 65536) = true := h0
    obtain ⟨h1, h2⟩ := sel_and h0
    simp only [Bool.and_eq_true] at h2
    have hp : p.1 < 65536 := Nat.blt_eq ▸ h2.2
    have e0 : litT (p :: l) = (puts Bo 8 p.1).put (.of p.2) (litT l) := rfl
    rw [e0] at hk
    by_cases e : c = p.1
    · subst e
      rw [gets_puts] at hk
      have h3 := h2.1
      unfold isK at h3
      split at h3
      · cases h3
      · rename_i j hj
        rw [hj, eqK_inv h3]; exact hk
    · rw [gets_puts_ne Bo 8 p.1 c _ _ hp hc e] at hk
      exact litT_get h l h1 c hc k hk

theorem Sit.lit {nt : Nat} {w0 : World} {fr : F} {g : Hp} {a : Act} {u : World} (s : Sit nt w0 fr g a u) {fs : List (Nat × AV)} {n : Nat} {bs : List (Nat × Blk)} (h1 : g.next = n) (h2 : chkF fr fs = true) (h3 : chkT g bs = true) :
    Sit nt w0 (litF fs) (litH n bs) a u := by
  obtain ⟨ν, s, r⟩ := s
  have hsub : Sub (litH n bs) g := fun c k hk => by
    rw [← get_mod] at hk ⊢
    exact litT_get g bs h3 _ (Nat.mod_lt _ (by decide)) k hk
  refine ⟨ν, ?_, fun t ht => ?_, r.size, ?_⟩
  · exact {
      le := s.le
      new := s.new
      rel := s.rel.sub hsub h1.symm
      next := by show 0 ≤ n; omega
      same := fun b hb => absurd (show b < 0 from hb) (Nat.not_lt_zero b)
      live := fun b k m _ h => by cases h
      foot := s.foot
      os := s.os
      tape := s.tape
      output := s.output
      size := s.size }
  · rcases litF_get fr fs h2 t (by omega) with h | ⟨h, _⟩
    · rw [h]; exact r.frr t ht
    · rw [h]; exact .top _
  · rcases litF_get fr fs h2 255 (by omega) with h | ⟨_, h⟩
    · rw [h]; exact r.dr
    · exact absurd rfl h

theorem Told.lit {nt : Nat} {w0 : World} {Q : Exit → Act → World → Prop} {o : Out} {fs : List (Nat × AV)} {n : Nat} {bs : List (Nat × Blk)} (h : chk fs n bs o = true) (e : ∀ a u, Sit nt w0 (litF fs) (litH n bs) a u → Q .normal a u) : Told nt w0 Q o := by
  cases o with
  | no => cases h
  | exi id fr' g' => cases h
  | ret fr' g' => cases h
  | nrm fr g =>
    have h : sel (sel (chkT g bs) false (chkF fr fs)) false (Nat.beq g.next n) = true := h
    obtain ⟨h, h1⟩ := sel_and h
    obtain ⟨h3, h2⟩ := sel_and h
    exact fun a u s => e a u (s.lit (Nat.eq_of_beq_eq_true h1) h2 h3)

end Go.Proofs.YtlkbahknmbgjmaaGreat.Ev
