/-
  The plain laws of Parts, Gap, Span, Close, and of longer windows and more events.
  No conditions but that each time is a word of 64 bits.
-/
import Derived.Test.YtgabaljmepgeiaaPl
namespace Go.Proofs.Ytgabaljmepgeiaa

/-! ### Parts -/
theorem parts_eq (D : List Nat) (fr wd : Nat) (n : Int) : partsL (srt D) fr wd n = partsL (tms D) fr wd n := by
  have h : (fun i => (srt D).countP fun t => inP fr wd t i) = fun i => (tms D).countP fun t => inP fr wd t i := funext fun i => (srt_perm D).countP_eq _
  unfold partsL
  rw [h]

/-! ### Gap -/
def Cons (L : List Nat) (x y : Nat) : Prop := x ∈ L ∧ y ∈ L ∧ rk x < rk y ∧ ∀ z ∈ L, rk z ≤ rk x ∨ rk y ≤ rk z

def IsGap (L : List Nat) (g : Nat) : Prop :=
  (g = 0 ∨ ∃ x y, Cons L x y ∧ Ieee.double.sub y x = some g ∧ 0 < rk g) ∧ ∀ x y r, Cons L x y → Ieee.double.sub y x = some r → rk r ≤ rk g

theorem rk0 : rk 0 = 0 := by decide

theorem pos_word {g : Nat} (hg : g < 18446744073709551616) (h : 0 < rk g) : (g : Int) = rk g := by
  unfold rk sgn rung at *
  rcases Nat.lt_or_ge g 9223372036854775808 with a | a
  · rw [if_neg (by simp; omega)] at h ⊢; omega
  · rw [if_pos (by simp; omega)] at h; omega

theorem sub_word {x y r : Nat} (h : Ieee.double.sub x y = some r) : r < 18446744073709551616 := Ieee.Format.sub_lt _ h

theorem gap_unique {L : List Nat} {g h : Nat} (hg : IsGap L g) (hh : IsGap L h) : g = h := by
  obtain ⟨g1, g2⟩ := hg
  obtain ⟨h1, h2⟩ := hh
  rcases g1 with rfl | ⟨x, y, c1, s1, p1⟩ <;> rcases h1 with rfl | ⟨u, v, c2, s2, p2⟩
  · rfl
  · have := g2 u v h c2 s2; rw [rk0] at this; omega
  · have := h2 x y g c1 s1; rw [rk0] at this; omega
  · have e1 := g2 u v h c2 s2
    have e2 := h2 x y g c1 s1
    have w1 := pos_word (sub_word s1) p1
    have w2 := pos_word (sub_word s2) p2
    omega

theorem cons_perm {L L' : List Nat} (p : L.Perm L') {x y : Nat} (h : Cons L x y) : Cons L' x y :=
  ⟨p.subset h.1, p.subset h.2.1, h.2.2.1, fun z hz => h.2.2.2 z (p.symm.subset hz)⟩

theorem gap_perm {L L' : List Nat} (p : L.Perm L') {g : Nat} (h : IsGap L g) : IsGap L' g :=
  ⟨h.1.imp id fun ⟨x, y, c, r⟩ => ⟨x, y, cons_perm p c, r⟩, fun x y r c => h.2 x y r (cons_perm p.symm c)⟩

theorem gapStep_le {out a b : Nat} (ho : isNum out = true) : rk out ≤ rk (gapStep out a b) ∧ isNum (gapStep out a b) = true ∧
    (∀ r, Ieee.double.sub b a = some r → rk r ≤ rk (gapStep out a b)) ∧ (gapStep out a b = out ∨ (Ieee.double.sub b a = some (gapStep out a b) ∧ rk out < rk (gapStep out a b))) := by
  unfold gapStep
  cases hs : Ieee.double.sub b a with
  | none => exact ⟨Int.le_refl _, ho, (fun r h => by cases h), .inl rfl⟩
  | some r =>
    have hr := sub_num hs
    have hg := fo_gt hr ho
    simp only
    by_cases h : rk out < rk r
    · rw [if_pos (by unfold gtF; rw [hg]; simpa using h)]
      exact ⟨by omega, hr, (fun r' h' => by cases h'; exact Int.le_refl _), .inr ⟨rfl, h⟩⟩
    · rw [if_neg (by unfold gtF; rw [hg]; simpa using h)]
      exact ⟨Int.le_refl _, ho, (fun r' h' => by cases h'; omega), .inl rfl⟩

theorem sub_self_rk {x r : Nat} (h : Ieee.double.sub x x = some r) : rk r = 0 := by
  by_cases h1 : rung x < 9218868437227405312
  · rw [sub_self_num h1] at h; cases h; rfl
  · by_cases h2 : rung x = 9218868437227405312
    · rw [sub_self_inf h2] at h; cases h
    · rw [sub_nan_left (by simp [isNum]; omega)] at h; cases h

theorem gapTo_inv (S : List Nat) (hs : S.Pairwise fun x y => rk x ≤ rk y) (hn : ∀ x ∈ S, Nm x) : ∀ j, j + 1 ≤ S.length →
    isNum (gapTo S j) = true ∧ 0 ≤ rk (gapTo S j) ∧ (gapTo S j = 0 ∨ ∃ i, i < j ∧ Ieee.double.sub (S[i + 1]?.getD 0) (S[i]?.getD 0) = some (gapTo S j) ∧ 0 < rk (gapTo S j) ∧ rk (S[i]?.getD 0) < rk (S[i + 1]?.getD 0)) ∧
    ∀ i, i < j → ∀ r, Ieee.double.sub (S[i + 1]?.getD 0) (S[i]?.getD 0) = some r → rk r ≤ rk (gapTo S j)
  | 0, _ => ⟨(show isNum 0 = true by decide), (show 0 ≤ rk 0 by decide), .inl rfl, fun i hi => by omega⟩
  | j + 1, hj => by
    obtain ⟨h1, h2, h3, h4⟩ := gapTo_inv S hs hn j (by omega)
    obtain ⟨k1, k2, k3, k4⟩ := gapStep_le (out := gapTo S j) (a := S[j]?.getD 0) (b := S[j + 1]?.getD 0) h1
    have e : gapTo S (j + 1) = gapStep (gapTo S j) (S[j]?.getD 0) (S[j + 1]?.getD 0) := rfl
    rw [e]
    refine ⟨k2, by omega, ?_, fun i hi r hr => ?_⟩
    · rcases k4 with k4 | ⟨k4, k5⟩
      · rw [k4]
        exact h3.imp id fun ⟨i, hi, r⟩ => ⟨i, by omega, r⟩
      · refine .inr ⟨j, by omega, k4, by omega, ?_⟩
        have hle : rk (S[j]?.getD 0) ≤ rk (S[j + 1]?.getD 0) := by
          rw [List.pairwise_iff_getElem] at hs
          have := hs j (j + 1) (by omega) (by omega) (by omega)
          simpa [List.getElem?_eq_getElem (show j < S.length by omega), List.getElem?_eq_getElem (show j + 1 < S.length by omega)] using this
        rcases Int.lt_or_eq_of_le hle with h | h
        · exact h
        · have ee := rk_inj (hn _ (getD_mem (show j < S.length by omega))) (hn _ (getD_mem (show j + 1 < S.length by omega))) h
          rw [ee] at k4
          have := sub_self_rk k4
          rw [ee] at k5
          omega
    · rcases Nat.lt_or_ge i j with h | h
      · have := h4 i h r hr; omega
      · have : i = j := by omega
        subst this
        exact k3 r hr

theorem cross (f : Nat → Int) (c : Int) : ∀ (d a : Nat), f a ≤ c → c < f (a + d) → ∃ i, a ≤ i ∧ i < a + d ∧ f i ≤ c ∧ c < f (i + 1)
  | 0, a, h1, h2 => by simp at h2; omega
  | d + 1, a, h1, h2 => by
    by_cases h : f (a + d) ≤ c
    · exact ⟨a + d, by omega, by omega, h, h2⟩
    · obtain ⟨i, h3, h4, h5⟩ := cross f c d a h1 (by omega)
      exact ⟨i, h3, by omega, h5⟩

theorem cons_adj {S : List Nat} (hs : S.Pairwise fun x y => rk x ≤ rk y) (hn : ∀ x ∈ S, Nm x) {x y : Nat} (h : Cons S x y) : ∃ i, i + 1 < S.length ∧ S[i]?.getD 0 = x ∧ S[i + 1]?.getD 0 = y := by
  obtain ⟨hx, hy, hlt, hz⟩ := h
  obtain ⟨a, ha, rfl⟩ := List.mem_iff_getElem.1 hx
  obtain ⟨b, hb, rfl⟩ := List.mem_iff_getElem.1 hy
  rw [List.pairwise_iff_getElem] at hs
  have hab : a < b := by
    rcases Nat.lt_trichotomy a b with h | h | h
    · exact h
    · subst h; omega
    · have := hs b a hb ha h; omega
  obtain ⟨d, rfl⟩ : ∃ d, b = a + d := ⟨b - a, by omega⟩
  have gd : ∀ i (h : i < S.length), S[i]?.getD 0 = S[i] := fun i h => by simp [List.getElem?_eq_getElem h]
  obtain ⟨i, h1, h2, h3, h4⟩ := cross (fun i => rk (S[i]?.getD 0)) (rk S[a]) d a (by rw [gd a ha]; exact Int.le_refl _) (by rw [gd _ hb]; exact hlt)
  have hi : i + 1 < S.length := by omega
  rw [gd i (by omega)] at h3
  rw [gd (i + 1) hi] at h4
  refine ⟨i, hi, ?_, ?_⟩
  · rw [gd i (by omega)]
    refine rk_inj (hn _ (List.getElem_mem _)) (hn _ (List.getElem_mem _)) ?_
    rcases Nat.lt_or_ge a i with h | h
    · have := hs a i ha (by omega) h; omega
    · have : i = a := by omega
      subst this; rfl
  · rw [gd (i + 1) hi]
    refine rk_inj (hn _ (List.getElem_mem _)) (hn _ (List.getElem_mem _)) ?_
    have h5 := hz S[i + 1] (List.getElem_mem _)
    rcases Nat.lt_or_ge (i + 1) (a + d) with h | h
    · have := hs (i + 1) (a + d) hi hb h; omega
    · have : i + 1 = a + d := by omega
      simp only [this]

theorem adj_cons {S : List Nat} (hs : S.Pairwise fun x y => rk x ≤ rk y) {i : Nat} (hi : i + 1 < S.length) (h : rk (S[i]?.getD 0) < rk (S[i + 1]?.getD 0)) : Cons S (S[i]?.getD 0) (S[i + 1]?.getD 0) := by
  refine ⟨getD_mem (by omega), getD_mem hi, h, fun z hz => ?_⟩
  obtain ⟨k, hk, rfl⟩ := List.mem_iff_getElem.1 hz
  rw [List.pairwise_iff_getElem] at hs
  have gd : ∀ i (h : i < S.length), S[i]?.getD 0 = S[i] := fun i h => by simp [List.getElem?_eq_getElem h]
  rw [gd i (by omega), gd (i + 1) hi]
  rcases Nat.lt_trichotomy k i with h | h | h
  · exact .inl (hs k i hk (by omega) h)
  · subst h; exact .inl (Int.le_refl _)
  · rcases Nat.lt_or_ge (i + 1) k with h' | h'
    · exact .inr (hs (i + 1) k hi hk h')
    · have : k = i + 1 := by omega
      subst this; exact .inr (Int.le_refl _)

theorem is_gapS {S : List Nat} (hs : S.Pairwise fun x y => rk x ≤ rk y) (hn : ∀ x ∈ S, Nm x) : IsGap S (gapS S) := by
  unfold gapS
  rcases Nat.eq_zero_or_pos S.length with h0 | h0
  · have : S = [] := List.eq_nil_of_length_eq_zero h0
    subst this
    exact ⟨.inl rfl, fun x y r h => by cases h.1⟩
  · obtain ⟨_, _, h3, h4⟩ := gapTo_inv S hs hn (S.length - 1) (by omega)
    refine ⟨h3.imp id fun ⟨i, hi, e, p, l⟩ => ⟨_, _, adj_cons hs (by omega) l, e, p⟩, fun x y r hc hr => ?_⟩
    obtain ⟨i, hi, rfl, rfl⟩ := cons_adj hs hn hc
    exact h4 i (by omega) r hr

theorem next_inv (x : Nat) (hx : Nm x) : ∀ (T P : List Nat) (p : Nat × Bool), (∀ z ∈ P ++ T, Nm z) →
    ((p.2 = false ∧ ∀ z ∈ P, rk z ≤ rk x) ∨ (p.2 = true ∧ p.1 ∈ P ∧ rk x < rk p.1 ∧ ∀ z ∈ P, rk z ≤ rk x ∨ rk p.1 ≤ rk z)) →
    (((T.foldl (nextStep x) p).2 = false ∧ ∀ z ∈ P ++ T, rk z ≤ rk x) ∨ ((T.foldl (nextStep x) p).2 = true ∧ (T.foldl (nextStep x) p).1 ∈ P ++ T ∧ rk x < rk (T.foldl (nextStep x) p).1 ∧ ∀ z ∈ P ++ T, rk z ≤ rk x ∨ rk (T.foldl (nextStep x) p).1 ≤ rk z))
  | [], P, p, _, hp => by simpa using hp
  | y :: T, P, p, hn, hp => by
    have h := next_inv x hx T (P ++ [y]) (nextStep x p y) (by simpa using hn) ?_
    · simpa using h
    · have ny : Nm y := hn y (by simp)
      have hg : gtF y x = decide (rk x < rk y) := fo_gt ny.1 hx.1
      unfold nextStep
      rcases hp with ⟨h1, h2⟩ | ⟨h1, h2, h3, h4⟩
      · by_cases h : rk x < rk y
        · rw [if_pos (by rw [hg, h1]; simpa using h)]
          refine .inr ⟨rfl, by simp, h, fun z hz => ?_⟩
          rcases List.mem_append.1 hz with hz | hz
          · exact .inl (h2 z hz)
          · simp at hz; subst hz; exact .inr (Int.le_refl _)
        · rw [if_neg (by rw [hg]; simp; omega)]
          refine .inl ⟨h1, fun z hz => ?_⟩
          rcases List.mem_append.1 hz with hz | hz
          · exact h2 z hz
          · simp at hz; subst hz; omega
      · have hl : ltF y p.1 = decide (rk y < rk p.1) := fo_lt ny.1 (hn p.1 (by simp [h2])).1
        by_cases h : rk x < rk y ∧ rk y < rk p.1
        · rw [if_pos (by rw [hg, hl, h1]; simpa using h)]
          refine .inr ⟨rfl, by simp, h.1, fun z hz => ?_⟩
          rcases List.mem_append.1 hz with hz | hz
          · have := h4 z hz; simp only; omega
          · simp at hz; subst hz; exact .inr (Int.le_refl _)
        · rw [if_neg (by rw [hg, hl, h1]; simp; omega)]
          refine .inr ⟨h1, by simp [h2], h3, fun z hz => ?_⟩
          rcases List.mem_append.1 hz with hz | hz
          · exact h4 z hz
          · simp at hz; subst hz; omega

theorem next_spec {T : List Nat} (hn : ∀ z ∈ T, Nm z) {x : Nat} (hx : x ∈ T) : ((nextOf T x).2 = false ∧ ∀ y, ¬ Cons T x y) ∨ ((nextOf T x).2 = true ∧ Cons T x (nextOf T x).1 ∧ ∀ y, Cons T x y → y = (nextOf T x).1) := by
  have h := next_inv x (hn x hx) T [] (0, false) (by simpa using hn) (.inl ⟨rfl, fun z hz => by cases hz⟩)
  simp only [List.nil_append] at h
  rcases h with ⟨h1, h2⟩ | ⟨h1, h2, h3, h4⟩
  · exact .inl ⟨h1, fun y hy => by have := h2 y hy.2.1; have := hy.2.2.1; omega⟩
  · refine .inr ⟨h1, ⟨hx, h2, h3, h4⟩, fun y hy => rk_inj (hn y hy.2.1) (hn _ h2) ?_⟩
    have a := h4 y hy.2.1
    have b := hy.2.2.2 _ h2
    have c := hy.2.2.1
    have d : rk x < rk (nextOf T x).1 := h3
    have a' : rk y ≤ rk x ∨ rk (nextOf T x).1 ≤ rk y := a
    have b' : rk (nextOf T x).1 ≤ rk x ∨ rk y ≤ rk (nextOf T x).1 := b
    omega

theorem gapR_inv (T0 : List Nat) (hn : ∀ z ∈ T0, Nm z) : ∀ (T P : List Nat) (g : Nat), (∀ z ∈ T, z ∈ T0) →
    (isNum g = true ∧ 0 ≤ rk g ∧ (g = 0 ∨ ∃ x y, Cons T0 x y ∧ Ieee.double.sub y x = some g ∧ 0 < rk g) ∧ ∀ x ∈ P, ∀ y r, Cons T0 x y → Ieee.double.sub y x = some r → rk r ≤ rk g) →
    ((T.foldl (gapRStep T0) g = 0 ∨ ∃ x y, Cons T0 x y ∧ Ieee.double.sub y x = some (T.foldl (gapRStep T0) g) ∧ 0 < rk (T.foldl (gapRStep T0) g)) ∧ ∀ x ∈ P ++ T, ∀ y r, Cons T0 x y → Ieee.double.sub y x = some r → rk r ≤ rk (T.foldl (gapRStep T0) g))
  | [], P, g, _, hg => by simpa using hg.2.2
  | a :: T, P, g, ht, hg => by
    have h := gapR_inv T0 hn T (P ++ [a]) (gapRStep T0 g a) (fun z hz => ht z (by simp [hz])) ?_
    · simpa using h
    · obtain ⟨g1, g2, g3, g4⟩ := hg
      unfold gapRStep
      rcases next_spec hn (ht a (by simp)) with ⟨n1, n2⟩ | ⟨n1, n2, n3⟩
      · rw [n1, if_neg (by simp)]
        refine ⟨g1, g2, g3, fun x hx y r hc hr => ?_⟩
        rcases List.mem_append.1 hx with hx | hx
        · exact g4 x hx y r hc hr
        · simp at hx; subst hx; exact absurd hc (n2 y)
      · rw [n1, if_pos rfl]
        obtain ⟨k1, k2, k3, k4⟩ := gapStep_le (out := g) (a := a) (b := (nextOf T0 a).1) g1
        refine ⟨k2, by omega, ?_, fun x hx y r hc hr => ?_⟩
        · rcases k4 with k4 | ⟨k4, k5⟩
          · rw [k4]; exact g3
          · exact .inr ⟨a, _, n2, k4, by omega⟩
        · rcases List.mem_append.1 hx with hx | hx
          · have := g4 x hx y r hc hr; omega
          · simp at hx; subst hx
            have := n3 y hc
            subst this
            exact k3 r hr

theorem is_gapR {T : List Nat} (hn : ∀ z ∈ T, Nm z) : IsGap T (gapR T) := by
  have h := gapR_inv T hn T [] 0 (fun z hz => hz) ⟨by decide, by decide, .inl rfl, fun x hx => by cases hx⟩
  simp only [List.nil_append] at h
  exact ⟨h.1, fun x y r hc hr => h.2 x hc.1 y r hc hr⟩

/-- P35.3: the program's Gap is the reference's. -/
theorem gap_eq {D : List Nat} (hD : ∀ b ∈ D, b < 18446744073709551616) : gapS (srt D) = gapR (tms D) :=
  gap_unique (gap_perm (srt_perm D) (is_gapS (srt_rk hD) (srt_nm hD))) (is_gapR (tms_nm hD))

theorem gap_num {L : List Nat} {g : Nat} (h : IsGap L g) : isNum g = true := by
  rcases h.1 with rfl | ⟨x, y, _, s, _⟩
  · decide
  · exact sub_num s

end Go.Proofs.Ytgabaljmepgeiaa
