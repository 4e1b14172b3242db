/-
  The plain laws: what the program comes to over the times in order is what the reference comes to over the times as they come.
  No conditions but that each time is a word of 64 bits.
-/
import Derived.Test.YtgabaljmepgeiaaAw
namespace Go.Proofs.Ytgabaljmepgeiaa

theorem key_nm {x : Nat} (h : Nm x) : key x = rk x := by unfold key; rw [h.1]; rfl

/-! ### Most -/
/-- n is the most that c comes to on L, and a is the least of those at which it does. -/
def IsBest (L : List Nat) (c : Nat → Nat) (p : Nat × Nat) : Prop :=
  (∀ x ∈ L, c x ≤ p.1) ∧ ((p.1 = 0 ∧ p.2 = 0) ∨ (0 < p.1 ∧ p.2 ∈ L ∧ c p.2 = p.1 ∧ ∀ x ∈ L, c x = p.1 → rk p.2 ≤ rk x))

theorem best_unique {L : List Nat} {c : Nat → Nat} {p q : Nat × Nat} (hL : ∀ x ∈ L, Nm x) (hp : IsBest L c p) (hq : IsBest L c q) : p = q := by
  obtain ⟨n, a⟩ := p
  obtain ⟨m, b⟩ := q
  obtain ⟨p1, p2⟩ := hp
  obtain ⟨q1, q2⟩ := hq
  simp only at *
  rcases p2 with ⟨h1, h2⟩ | ⟨h1, h2, h3, h4⟩ <;> rcases q2 with ⟨k1, k2⟩ | ⟨k1, k2, k3, k4⟩
  · rw [h1, h2, k1, k2]
  · have := p1 b k2; omega
  · have := q1 a h2; omega
  · have e1 := p1 b k2
    have e2 := q1 a h2
    have e : n = m := by omega
    subst e
    rw [rk_inj (hL a h2) (hL b k2) (by have := h4 b k2 k3; have := k4 a h2 h3; omega)]

theorem best_perm {L L' : List Nat} {c : Nat → Nat} {p : Nat × Nat} (h : L.Perm L') (hp : IsBest L c p) : IsBest L' c p :=
  ⟨fun x hx => hp.1 x (h.symm.subset hx), hp.2.imp id fun ⟨h1, h2, h3, h4⟩ => ⟨h1, h.subset h2, h3, fun x hx => h4 x (h.symm.subset hx)⟩⟩

theorem best_most (w : Nat) (S0 : List Nat) : ∀ (S P : List Nat) (p : Nat × Nat), (P ++ S).Pairwise (fun x y => rk x ≤ rk y) → IsBest P (fun a => cnt S0 a w) p → IsBest (P ++ S) (fun a => cnt S0 a w) (S.foldl (mostStep S0 w) p)
  | [], P, p, _, hp => by simpa using hp
  | a :: S, P, p, hs, hp => by
    have h := best_most w S0 S (P ++ [a]) (mostStep S0 w p a) (by simpa using hs) ?_
    · simpa using h
    · have hle : ∀ x ∈ P, rk x ≤ rk a := fun x hx => (List.pairwise_append.1 hs).2.2 x hx a (by simp)
      unfold mostStep
      obtain ⟨p1, p2⟩ := hp
      by_cases hlt : p.1 < cnt S0 a w
      · rw [if_pos hlt]
        refine ⟨fun x hx => ?_, .inr ⟨by omega, by simp, rfl, fun x hx hc => ?_⟩⟩
        · rcases List.mem_append.1 hx with h | h
          · have := p1 x h; simp only at this ⊢; omega
          · simp at h; subst h; exact Nat.le_refl _
        · rcases List.mem_append.1 hx with h | h
          · have := p1 x h; simp only at this hc; omega
          · simp at h; subst h; exact Int.le_refl _
      · rw [if_neg hlt]
        refine ⟨fun x hx => ?_, p2.imp id fun ⟨h1, h2, h3, h4⟩ => ⟨h1, by simp [h2], h3, fun x hx hc => ?_⟩⟩
        · rcases List.mem_append.1 hx with h | h
          · exact p1 x h
          · simp at h; subst h; simp only; omega
        · rcases List.mem_append.1 hx with h | h
          · exact h4 x h hc
          · simp at h; subst h; exact hle _ h2

theorem best_mostR (w : Nat) (T0 : List Nat) : ∀ (T P : List Nat) (p : Nat × Nat), (∀ x ∈ P ++ T, Nm x) → IsBest P (fun a => cnt T0 a w) p → IsBest (P ++ T) (fun a => cnt T0 a w) (T.foldl (mostRStep T0 w) p)
  | [], P, p, _, hp => by simpa using hp
  | a :: T, P, p, hn, hp => by
    have h := best_mostR w T0 T (P ++ [a]) (mostRStep T0 w p a) (by simpa using hn) ?_
    · simpa using h
    · have na : Nm a := hn a (by simp)
      obtain ⟨p1, p2⟩ := hp
      unfold mostRStep
      by_cases hlt : p.1 < cnt T0 a w ∨ (cnt T0 a w = p.1 ∧ 0 < cnt T0 a w ∧ ltF a p.2 = true)
      · rw [if_pos hlt]
        refine ⟨fun x hx => ?_, .inr ⟨(by rcases hlt with h | ⟨_, h, _⟩ <;> omega), by simp, rfl, fun x hx hc => ?_⟩⟩
        · rcases List.mem_append.1 hx with h | h
          · have := p1 x h; simp only at this ⊢; omega
          · simp at h; subst h; exact Nat.le_refl _
        · rcases List.mem_append.1 hx with h | h
          · have h1 := p1 x h
            simp only at h1 hc
            rcases hlt with hl | ⟨hl1, hl2, hl3⟩
            · omega
            · rcases p2 with ⟨k1, _⟩ | ⟨k1, k2, k3, k4⟩
              · omega
              · have h2 := k4 x h (by show cnt T0 x w = p.1; omega)
                have h3 : rk a < rk p.2 := by
                  have := fo_lt na.1 (hn p.2 (by simp [k2])).1
                  unfold ltF at hl3
                  rw [this] at hl3
                  simpa using hl3
                simp only at h2 ⊢
                omega
          · simp at h; subst h; exact Int.le_refl _
      · rw [if_neg hlt]
        refine ⟨fun x hx => ?_, p2.imp id fun ⟨h1, h2, h3, h4⟩ => ⟨h1, by simp [h2], h3, fun x hx hc => ?_⟩⟩
        · rcases List.mem_append.1 hx with h | h
          · exact p1 x h
          · simp at h; subst h; simp only; omega
        · rcases List.mem_append.1 hx with h | h
          · exact h4 x h hc
          · simp at h; subst h
            have := fo_lt na.1 (hn p.2 (by simp [h2])).1
            by_cases h5 : rk x < rk p.2
            · exact absurd (.inr ⟨hc, by simp only at hc; omega, by unfold ltF; rw [this]; simpa using h5⟩) hlt
            · omega

theorem cnt_perm {L L' : List Nat} (h : L.Perm L') (a w : Nat) : cnt L a w = cnt L' a w := h.countP_eq _

theorem srt_rk {D : List Nat} (hD : ∀ b ∈ D, b < 18446744073709551616) : (srt D).Pairwise fun x y => rk x ≤ rk y := by
  refine List.Pairwise.imp_of_mem ?_ (srt_sorted D)
  intro x y hx hy h
  rwa [key_nm (tms_nm hD x ((srt_perm D).subset hx)), key_nm (tms_nm hD y ((srt_perm D).subset hy))] at h

theorem srt_nm {D : List Nat} (hD : ∀ b ∈ D, b < 18446744073709551616) : ∀ x ∈ srt D, Nm x := fun x hx => tms_nm hD x ((srt_perm D).subset hx)

theorem is_mostS {D : List Nat} (hD : ∀ b ∈ D, b < 18446744073709551616) (w : Nat) : IsBest (srt D) (fun a => cnt (srt D) a w) (mostS (srt D) w) := by
  have := best_most w (srt D) (srt D) [] (0, 0) (by simpa using srt_rk hD) ⟨(fun x hx => by cases hx), .inl ⟨rfl, rfl⟩⟩
  simpa [mostS] using this

theorem is_mostR {D : List Nat} (hD : ∀ b ∈ D, b < 18446744073709551616) (w : Nat) : IsBest (tms D) (fun a => cnt (tms D) a w) (mostR (tms D) w) := by
  have := best_mostR w (tms D) (tms D) [] (0, 0) (by simpa using tms_nm hD) ⟨(fun x hx => by cases hx), .inl ⟨rfl, rfl⟩⟩
  simpa [mostR] using this

/-- P35.1: the program's Most is the reference's. -/
theorem most_eq {D : List Nat} (hD : ∀ b ∈ D, b < 18446744073709551616) (w : Nat) : mostS (srt D) w = mostR (tms D) w := by
  have h1 := best_perm (srt_perm D) (is_mostS hD w)
  rw [show (fun a => cnt (srt D) a w) = fun a => cnt (tms D) a w from funext fun a => cnt_perm (srt_perm D) a w] at h1
  exact best_unique (tms_nm hD) h1 (is_mostR hD w)

theorem most_num {D : List Nat} (hD : ∀ b ∈ D, b < 18446744073709551616) (w : Nat) : Nm (mostS (srt D) w).2 := by
  rcases (is_mostS hD w).2 with ⟨_, h⟩ | ⟨_, h, _⟩
  · rw [h]; exact ⟨by decide, by omega, by omega⟩
  · exact srt_nm hD _ h

theorem sameF_self {a : Nat} (h : isNum a = true) : sameF a a = true := by
  unfold sameF
  rw [fo_self_ne, h]
  simp

end Go.Proofs.Ytgabaljmepgeiaa
