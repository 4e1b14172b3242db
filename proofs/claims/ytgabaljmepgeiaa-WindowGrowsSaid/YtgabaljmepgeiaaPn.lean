/-
  The plain laws of Span and Close, and of longer windows and more events.
  No conditions but that each time is a word of 64 bits.
-/
import Derived.Test.YtgabaljmepgeiaaPm
namespace Go.Proofs.Ytgabaljmepgeiaa

/-! ### Span -/
theorem spanTo_inv (T : List Nat) (hn : ∀ z ∈ T, Nm z) : ∀ k, 0 < k → k ≤ T.length →
    (spanTo T k).1 ∈ T ∧ (spanTo T k).2 ∈ T ∧ ∀ i, i < k → rk (spanTo T k).1 ≤ rk (T[i]?.getD 0) ∧ rk (T[i]?.getD 0) ≤ rk (spanTo T k).2
  | 0, h, _ => by omega
  | k + 1, _, hk => by
    have hm : T[k]?.getD 0 ∈ T := getD_mem (by omega)
    have e : spanTo T (k + 1) = spanStep (spanTo T k) k (T[k]?.getD 0) := rfl
    rw [e]
    unfold spanStep
    by_cases h0 : k = 0
    · subst h0
      rw [if_pos (.inl rfl), if_pos (.inl rfl)]
      refine ⟨hm, hm, fun i hi => ?_⟩
      have : i = 0 := by omega
      subst this
      exact ⟨Int.le_refl _, Int.le_refl _⟩
    · obtain ⟨h1, h2, h3⟩ := spanTo_inv T hn k (by omega) (by omega)
      have l1 : ltF (T[k]?.getD 0) (spanTo T k).1 = decide (rk (T[k]?.getD 0) < rk (spanTo T k).1) := fo_lt (hn _ hm).1 (hn _ h1).1
      have l2 : gtF (T[k]?.getD 0) (spanTo T k).2 = decide (rk (spanTo T k).2 < rk (T[k]?.getD 0)) := fo_gt (hn _ hm).1 (hn _ h2).1
      rw [l1, l2]
      simp only [h0, false_or, decide_eq_true_eq]
      refine ⟨by split <;> assumption, by split <;> assumption, fun i hi => ?_⟩
      rcases Nat.lt_or_ge i k with h | h
      · have := h3 i h
        constructor <;> split <;> omega
      · have : i = k := by omega
        subst this
        constructor <;> split <;> omega

/-- P35.5: the program's Span is the reference's. -/
theorem span_eq {D : List Nat} (hD : ∀ b ∈ D, b < 18446744073709551616) :
    (spanS (srt D)).1 = (spanTo (tms D) (tms D).length).1 ∧ (spanS (srt D)).2.1 = (spanTo (tms D) (tms D).length).2 ∧ (spanS (srt D)).2.2 = decide ((0 : Int) < ((tms D).length : Int)) := by
  have hp := srt_perm D
  have hs := srt_rk hD
  have hn := tms_nm hD
  have hl := hp.length_eq
  generalize srt D = S at *
  generalize tms D = T at *
  cases S with
  | nil =>
    have : T = [] := List.eq_nil_of_length_eq_zero (by simpa using hl.symm)
    subst this
    exact ⟨rfl, rfl, rfl⟩
  | cons a l =>
    simp at hl
    obtain ⟨h1, h2, h3⟩ := spanTo_inv T hn T.length (by omega) (Nat.le_refl _)
    have hz : (a :: l)[l.length]?.getD 0 ∈ a :: l := getD_mem (by simp)
    have hlo : ∀ x ∈ T, rk (spanTo T T.length).1 ≤ rk x ∧ rk x ≤ rk (spanTo T T.length).2 := fun x hx => by
      obtain ⟨k, hk, rfl⟩ := List.mem_iff_getElem.1 hx
      have := h3 k hk
      rwa [List.getElem?_eq_getElem hk] at this
    have hS : ∀ x ∈ a :: l, rk a ≤ rk x ∧ rk x ≤ rk ((a :: l)[l.length]?.getD 0) := fun x hx => by
      obtain ⟨k, hk, rfl⟩ := List.mem_iff_getElem.1 hx
      rw [List.pairwise_iff_getElem] at hs
      rw [List.getElem?_eq_getElem (show l.length < (a :: l).length by simp)]
      simp only [Option.getD_some]
      simp at hk
      constructor
      · rcases Nat.eq_zero_or_pos k with h | h
        · subst h; exact Int.le_refl _
        · exact hs 0 k (by simp) (by simpa using hk) h
      · rcases Nat.lt_or_ge k l.length with h | h
        · exact hs k l.length (by simpa using hk) (by simp) h
        · have : k = l.length := by omega
          simp only [this]; exact Int.le_refl _
    refine ⟨rk_inj (hn a (hp.subset (by simp))) (hn _ h1) ?_, rk_inj (hn _ (hp.subset hz)) (hn _ h2) ?_, ?_⟩
    · have e1 := (hlo a (hp.subset (by simp))).1
      have e2 := (hS _ (hp.symm.subset h1)).1
      show rk a = _
      omega
    · have e1 := (hlo _ (hp.subset hz)).2
      have e2 := (hS _ (hp.symm.subset h2)).2
      show rk ((a :: l)[l.length]?.getD 0) = _
      omega
    · show true = _
      rw [eq_comm, decide_eq_true_eq]; omega

theorem span_num {D : List Nat} (hD : ∀ b ∈ D, b < 18446744073709551616) : isNum (spanS (srt D)).1 = true ∧ isNum (spanS (srt D)).2.1 = true := by
  have hn := srt_nm hD
  generalize srt D = S at *
  cases S with
  | nil => exact ⟨by decide, by decide⟩
  | cons a l => exact ⟨(hn a (by simp)).1, (hn _ (getD_mem (by simp))).1⟩

/-! ### Close -/
def pairsF (f : Nat → Nat → Bool) : List Nat → Nat
  | [] => 0
  | x :: l => l.countP (f x) + pairsF f l

theorem closeTo_snoc (f : Nat → Nat → Bool) (l : List Nat) (x : Nat) : closeTo (l ++ [x]) f (l.length + 1) = closeTo l f l.length + l.countP (f x) := by
  have h : ∀ k, k ≤ l.length → closeTo (l ++ [x]) f k = closeTo l f k := by
    intro k
    induction k with
    | zero => intro _; rfl
    | succ k ih =>
      intro hk
      show closeTo (l ++ [x]) f k + _ = closeTo l f k + _
      rw [ih (by omega), List.take_append_of_le_length (by omega), List.getElem?_append_left (by omega)]
  show closeTo (l ++ [x]) f l.length + _ = _
  rw [h _ (Nat.le_refl _)]
  simp

theorem close_pairs (f : Nat → Nat → Bool) (l : List Nat) : closeTo l f l.length = pairsF f l.reverse := by
  have h : ∀ r : List Nat, closeTo r.reverse f r.length = pairsF f r := by
    intro r
    induction r with
    | nil => rfl
    | cons x r ih =>
      have := closeTo_snoc f r.reverse x
      rw [List.length_reverse] at this
      rw [List.reverse_cons, List.length_cons, this, ih]
      show _ = r.countP (f x) + pairsF f r
      rw [Nat.add_comm, List.countP_reverse]
  have := h l.reverse
  rwa [List.reverse_reverse, List.length_reverse] at this

theorem pairs_perm (f : Nat → Nat → Bool) {l l' : List Nat} (p : l.Perm l') : (∀ x ∈ l, ∀ y ∈ l, f x y = f y x) → pairsF f l = pairsF f l' := by
  induction p with
  | nil => intro _; rfl
  | cons x p ih =>
    intro h
    show _ + _ = _ + _
    rw [p.countP_eq, ih (fun a ha b hb => h a (by simp [ha]) b (by simp [hb]))]
  | swap x y l =>
    intro h
    show (x :: l).countP (f y) + (l.countP (f x) + _) = (y :: l).countP (f x) + (l.countP (f y) + _)
    rw [List.countP_cons, List.countP_cons, h y (by simp) x (by simp)]
    omega
  | trans p q ih1 ih2 =>
    intro h
    rw [ih1 h, ih2 (fun a ha b hb => h a (p.symm.subset ha) b (p.symm.subset hb))]

theorem near_symm {d x y : Nat} (hx : Nm x) (hy : Nm y) : nearR d x y = nearR d y x := by
  unfold nearR mxF mnF
  rcases Int.lt_trichotomy (rk x) (rk y) with h | h | h
  · rw [if_pos h, if_neg (by omega), if_neg (by omega), if_pos h]
  · rw [rk_inj hx hy h]
  · rw [if_neg (by omega), if_pos h, if_pos h, if_neg (by omega)]

theorem near_sorted {d a b : Nat} (ha : Nm a) (hb : Nm b) (h : rk a ≤ rk b) : nearS d b a = nearR d b a := by
  unfold nearS nearR mxF mnF
  rcases Int.lt_or_eq_of_le h with h | h
  · rw [if_neg (by omega), if_pos h]
  · rw [rk_inj ha hb h]; simp

theorem closeTo_congr {S : List Nat} {f g : Nat → Nat → Bool} : ∀ k, k ≤ S.length → (∀ i j, j < i → i < S.length → f (S[i]?.getD 0) (S[j]?.getD 0) = g (S[i]?.getD 0) (S[j]?.getD 0)) → closeTo S f k = closeTo S g k
  | 0, _, _ => rfl
  | k + 1, hk, h => by
    show closeTo S f k + _ = closeTo S g k + _
    rw [closeTo_congr k (by omega) h]
    congr 1
    apply List.countP_congr
    intro x hx
    obtain ⟨j, hj, rfl⟩ := List.mem_iff_getElem.1 hx
    have hjk : j < k := by simp at hj; omega
    have := h k j hjk (by omega)
    rw [List.getElem_take]
    rw [List.getElem?_eq_getElem (show j < S.length by omega)] at this
    simp only [Option.getD_some] at this
    rw [this]

/-- P35.5: the program's Close is the reference's. -/
theorem close_eq {D : List Nat} (hD : ∀ b ∈ D, b < 18446744073709551616) (d : Nat) : closeTo (srt D) (nearS d) (srt D).length = closeTo (tms D) (nearR d) (tms D).length := by
  have hs := srt_rk hD
  have hn := srt_nm hD
  rw [closeTo_congr (g := nearR d) _ (Nat.le_refl _) (fun i j hji hi => by
    rw [List.pairwise_iff_getElem] at hs
    have h := hs j i (by omega) hi hji
    rw [List.getElem?_eq_getElem hi, List.getElem?_eq_getElem (show j < (srt D).length by omega)]
    exact near_sorted (hn _ (List.getElem_mem _)) (hn _ (List.getElem_mem _)) h)]
  rw [close_pairs, close_pairs]
  exact pairs_perm _ (((List.reverse_perm _).trans (srt_perm D)).trans (List.reverse_perm _).symm) (fun x hx y hy => near_symm (hn x (by simpa using hx)) (hn y (by simpa using hy)))

/-! ### Longer windows, more events -/
theorem le_iff {w v : Nat} (h : leF w v = true) : isNum w = true ∧ isNum v = true ∧ rk w ≤ rk v := by
  unfold leF at h
  cases hw : isNum w
  · rw [fo_none_l hw] at h; simp at h
  · cases hv : isNum v
    · rw [fo_none_r hv] at h; simp at h
    · rw [fo_lt hw hv, fo_eq hw hv] at h
      simp at h
      exact ⟨rfl, rfl, by omega⟩

theorem dlt_mono {x a w v : Nat} (h : leF w v = true) (hd : dlt x a w = true) : dlt x a v = true := by
  obtain ⟨h1, h2, h3⟩ := le_iff h
  unfold dlt at *
  cases hs : Ieee.double.sub x a with
  | none => rw [hs] at hd; cases hd
  | some r =>
    rw [hs] at hd
    have hr := sub_num hs
    simp only at hd ⊢
    rw [fo_lt hr h1] at hd
    rw [fo_lt hr h2]
    simp at hd ⊢
    omega

theorem cnt_mono {S : List Nat} {a w v : Nat} (h : leF w v = true) : cnt S a w ≤ cnt S a v := by
  unfold cnt
  apply List.countP_mono_left
  intro x _ hx
  unfold inW at *
  simp only [Bool.and_eq_true] at hx ⊢
  exact ⟨hx.1, dlt_mono h hx.2⟩

/-- A longer window has no fewer. -/
theorem most_mono {D : List Nat} (hD : ∀ b ∈ D, b < 18446744073709551616) {w v : Nat} (h : leF w v = true) : (mostS (srt D) w).1 ≤ (mostS (srt D) v).1 := by
  rcases (is_mostS hD w).2 with ⟨h0, _⟩ | ⟨_, h1, h2, _⟩
  · omega
  · have := (is_mostS hD v).1 _ h1
    have := cnt_mono (S := srt D) (a := (mostS (srt D) w).2) h
    simp only at *
    omega

/-- With events more there are no fewer. -/
theorem most_more {D : List Nat} (hD : ∀ b ∈ D, b < 18446744073709551616) {x : Nat} (hx : x < 18446744073709551616) (w : Nat) : (mostS (srt D) w).1 ≤ (mostS (srt (D ++ [x])) w).1 := by
  have hD2 : ∀ b ∈ D ++ [x], b < 18446744073709551616 := fun b hb => by
    rcases List.mem_append.1 hb with h | h
    · exact hD b h
    · simp at h; subst h; exact hx
  rcases (is_mostS hD w).2 with ⟨h0, _⟩ | ⟨_, h1, h2, _⟩
  · omega
  · have hsub : (tms D).Sublist (tms (D ++ [x])) := by unfold tms; rw [List.filterMap_append]; exact List.sublist_append_left _ _
    have hm : (mostS (srt D) w).2 ∈ srt (D ++ [x]) := (srt_perm _).symm.subset (hsub.subset ((srt_perm D).subset h1))
    have e1 := (is_mostS hD2 w).1 _ hm
    have e2 : cnt (srt D) (mostS (srt D) w).2 w ≤ cnt (srt (D ++ [x])) (mostS (srt D) w).2 w := by
      rw [cnt_perm (srt_perm D), cnt_perm (srt_perm (D ++ [x]))]
      exact hsub.countP_le
    simp only at *
    omega

theorem most_len {D : List Nat} (hD : ∀ b ∈ D, b < 18446744073709551616) (w : Nat) : (mostS (srt D) w).1 ≤ D.length := by
  have hl : (srt D).length ≤ D.length := srt_le rfl
  rcases (is_mostS hD w).2 with ⟨h0, _⟩ | ⟨_, h1, h2, _⟩
  · omega
  · have := cnt_len (srt D) (mostS (srt D) w).2 w
    simp only at *
    omega

end Go.Proofs.Ytgabaljmepgeiaa
