/-
  A region whose order is open: blocks laid ahead, a turn of memory under them, counts.
  No conditions.
-/
import Derived.Test.YtlkbahknmbgjmaaGreatEr
namespace Go.Proofs.YtlkbahknmbgjmaaGreat.Ev
open Go

theorem get_at {h : Hp} {id : Nat} (k : Blk) {c : Nat} (hi : id < 65536) (hc : c < 65536) : (h.at id k).get c = if c = id then .of k else h.get c := get_set (.of k) hc hi

/-! ### Blocks laid ahead -/
/-- The heap with these blocks laid. -/
noncomputable def lay : List (Nat × Blk) → Hp → Hp
  | [], h => h
  | p :: l, h => lay l (h.at p.1 p.2)
theorem lay_next : ∀ (l : List (Nat × Blk)) (h : Hp), (lay l h).next = h.next
  | [], _ => rfl
  | p :: l, h => by show (lay l (h.at p.1 p.2)).next = _; rw [lay_next l]; rfl
theorem lay_out : ∀ {l : List (Nat × Blk)} {h : Hp} {c : Nat}, (∀ p ∈ l, p.1 < 65536) → c < 65536 → (∀ p ∈ l, p.1 ≠ c) → (lay l h).get c = h.get c
  | [], _, _, _, _, _ => rfl
  | p :: l, h, c, hl, hc, hn => by
    show (lay l (h.at p.1 p.2)).get c = _
    rw [lay_out (fun q hq => hl q (List.mem_cons_of_mem _ hq)) hc fun q hq => hn q (List.mem_cons_of_mem _ hq), get_at _ (hl p List.mem_cons_self) hc, if_neg fun e => hn p List.mem_cons_self e.symm]
theorem lay_in {c : Nat} {k : Blk} : ∀ {l : List (Nat × Blk)} {h : Hp}, (∀ p ∈ l, p.1 < 65536) → (l.map (·.1)).Nodup → (c, k) ∈ l → (lay l h).get c = .of k := by
  intro l
  induction l with
  | nil => intro h _ _ hm; simp at hm
  | cons p l ih =>
    intro h hl hd hm
    rw [List.map_cons, List.nodup_cons] at hd
    have e : lay (p :: l) h = lay l (h.at p.1 p.2) := rfl
    rw [e]
    rcases List.mem_cons.1 hm with e | hm
    · subst e
      have hc : c < 65536 := hl (c, k) List.mem_cons_self
      have hlo := lay_out (l := l) (h := h.at c k) (fun q hq => hl q (List.mem_cons_of_mem _ hq)) hc fun q hq e => hd.1 (List.mem_map.2 ⟨q, hq, e⟩)
      rw [get_at k hc hc, if_pos rfl] at hlo
      exact hlo
    · exact ih (fun q hq => hl q (List.mem_cons_of_mem _ hq)) hd.2 hm

theorem lay_cases (l : List (Nat × Blk)) (hl : ∀ p ∈ l, p.1 < 65536) (hd : (l.map (·.1)).Nodup) (c : Nat) (hc : c < 65536) :
    (∃ k, (c, k) ∈ l ∧ ∀ h, (lay l h).get c = .of k) ∨ ((∀ p ∈ l, p.1 ≠ c) ∧ ∀ h, (lay l h).get c = h.get c) := by
  by_cases e : ∃ k, (c, k) ∈ l
  · obtain ⟨k, hk⟩ := e
    exact .inl ⟨k, hk, fun h => lay_in hl hd hk⟩
  · have hn : ∀ p ∈ l, p.1 ≠ c := fun p hp e' => e ⟨p.2, by rw [← e']; exact hp⟩
    exact .inr ⟨hn, fun h => lay_out hl hc hn⟩

/-- A turn of memory, with blocks laid that it does not know. -/
theorem Stp.lay {μ ν : Mp} {h g : Hp} {w u : World} {l : List (Nat × Blk)} (hl : ∀ p ∈ l, p.1 < h.next) (hd : (l.map (·.1)).Nodup) (hno : ∀ p ∈ l, h.get p.1 = .no) (r : Rel μ (Ev.lay l h) w) (s : Stp μ h w ν g u) :
    Stp μ (Ev.lay l h) w ν (Ev.lay l g) u := by
  have hnx : h.next ≤ 65536 := by have := r.nx; rwa [lay_next] at this
  have hl6 : ∀ p ∈ l, p.1 < 65536 := fun p hp => by have := hl p hp; omega
  have cs := lay_cases l hl6 hd
  have lt : ∀ c m, ν c = some m → c < g.next ∧ m.blk < u.heap.size := s.rel.lt
  have hgx := s.rel.nx
  -- alive below
  have up : ∀ c k m, h.get c = .of k → μ c = some m → ∃ k', (Ev.lay l h).get c = .of k' := fun c k m hk hm => by
    have hlt := (r.lt c m hm).1
    rw [lay_next] at hlt
    rcases cs c (by omega) with ⟨k', _, h2⟩ | ⟨_, h2⟩
    · exact ⟨k', h2 h⟩
    · exact ⟨k, by rw [h2]; exact hk⟩
  have upL : ∀ x, Live μ h x → Live μ (Ev.lay l h) x := fun x ⟨c, k, m, h1, h2, h3⟩ => by
    obtain ⟨k', hk'⟩ := up c k m h1 h2
    exact ⟨c, k', m, hk', h2, h3⟩
  -- a laid block that stands for a block of the world stood for it before
  have mine : ∀ c k m, (c, k) ∈ l → ν c = some m → μ c = some m := fun c k m hm hν => by
    rcases s.new c m hν with h1 | ⟨h1, _⟩
    · exact h1
    · have := hl _ hm; simp only at this; omega
  have apart : ∀ c k m, (c, k) ∈ l → μ c = some m → ¬ Live μ h m.blk := fun c k m hm hμ ⟨c', k', m', h1, h2, h3⟩ => by
    have hne : c' ≠ c := fun e => by subst e; rw [hno _ hm] at h1; cases h1
    obtain ⟨k2, hk2⟩ := up c' k' m' h1 h2
    exact r.inj c' c k2 k m' m hk2 (lay_in hl6 hd hm) h2 hμ hne h3
  -- two, one laid and one not
  have two : ∀ c k m, (c, k) ∈ l → ν c = some m → ∀ d k' m', g.get d = .of k' → ν d = some m' → d ≠ c → m.blk ≠ m'.blk := fun c k m hm hν d k' m' hd' hν' hne e => by
    have hμ := mine c k m hm hν
    have hlt := (r.lt c m hμ).2
    rcases s.new d m' hν' with h1 | ⟨_, h1 | h1⟩
    · obtain ⟨l', hl'⟩ := s.live d k' m' hd' h1
      exact apart c k m hm hμ ⟨d, l', m', hl', h1, e.symm⟩
    · omega
    · exact apart c k m hm hμ (e ▸ h1)
  exact {
    le := s.le
    new := fun c m hm => by
      rcases s.new c m hm with h1 | ⟨h1, h2⟩
      · exact .inl h1
      · exact .inr ⟨by rw [lay_next]; exact h1, h2.imp id (upL _)⟩
    rel := by
      refine ⟨fun c m hm => by rw [lay_next]; exact lt c m hm, fun c k m hk hm => ?_, fun c d k k' m m' hk hk' hm hm' hne => ?_, by rw [lay_next]; exact hgx, fun c hc hc' => ?_⟩
      · have hlt := (lt c m hm).1
        rcases cs c (by omega) with ⟨k2, h1, h2⟩ | ⟨_, h2⟩
        · rw [h2] at hk; cases hk
          have hμ := mine c k m h1 hm
          refine (r.br c k m (h2 h) hμ).keep s.le (s.foot _ (r.lt c m hμ).2 (apart c k m h1 hμ))
        · rw [h2] at hk
          exact s.rel.br c k m hk hm
      · have hlt := (lt c m hm).1
        have hlt' := (lt d m' hm').1
        rcases cs c (by omega) with ⟨k2, h1, h2⟩ | ⟨_, h2⟩
        · rcases cs d (by omega) with ⟨k3, h3, h4⟩ | ⟨_, h4⟩
          · exact r.inj c d k2 k3 m m' (h2 h) (h4 h) (mine c k2 m h1 hm) (mine d k3 m' h3 hm') hne
          · rw [h4] at hk'
            exact two c k2 m h1 hm d k' m' hk' hm' (Ne.symm hne)
        · rw [h2] at hk
          rcases cs d (by omega) with ⟨k3, h3, h4⟩ | ⟨_, h4⟩
          · exact (two d k3 m' h3 hm' c k m hk hm hne).symm
          · rw [h4] at hk'
            exact s.rel.inj c d k k' m m' hk hk' hm hm' hne
      · rw [lay_next] at hc
        have hsn := s.next
        rw [lay_out hl6 hc' fun p hp e => by have := hl p hp; omega]
        exact s.rel.fresh c hc hc'
    next := by rw [lay_next, lay_next]; exact s.next
    same := fun c hc hm => by
      rw [lay_next] at hc
      rcases cs c (by omega) with ⟨k2, _, h2⟩ | ⟨_, h2⟩
      · rw [h2, h2]
      · rw [h2, h2]; exact s.same c hc hm
    live := fun c k m hk hm => by
      have hlt := (r.lt c m hm).1
      rw [lay_next] at hlt
      rcases cs c (by omega) with ⟨k2, _, h2⟩ | ⟨_, h2⟩
      · exact ⟨k2, h2 h⟩
      · rw [h2] at hk
        obtain ⟨l', hl'⟩ := s.live c k m hk hm
        exact ⟨l', by rw [h2]; exact hl'⟩
    foot := fun x hx hn => s.foot x hx fun h' => hn (upL x h')
    os := s.os
    tape := s.tape
    output := s.output
    size := s.size }

/-! ### Counts -/
/-- How many of a class lie before p. -/
def cnt (c : Inf → Bool) (all : List Inf) (p : Nat) : Nat := (all.filter fun y => c y && Nat.blt y.i p).length

theorem cnt_le {c : Inf → Bool} {all : List Inf} {d : Inf → Bool} {p : Nat} (h : ∀ y ∈ all, d y = true → c y = true ∧ y.i < p) : (all.filter d).length ≤ cnt c all p := by
  unfold cnt
  rw [← List.countP_eq_length_filter, ← List.countP_eq_length_filter]
  refine List.countP_mono_left fun y hy hd => ?_
  obtain ⟨h1, h2⟩ := h y hy hd
  rw [h1, show Nat.blt y.i p = true by rw [Nat.blt_eq]; exact h2]; rfl
theorem cnt_mono {c : Inf → Bool} {all : List Inf} {p q : Nat} (h : p ≤ q) : cnt c all p ≤ cnt c all q := cnt_le fun y _ hd => by
  simp only [Bool.and_eq_true, Nat.blt_eq] at hd
  exact ⟨hd.1, by omega⟩

theorem cnt_succ_aux (c : Inf → Bool) : ∀ (l : List Inf) (s : Nat), (∀ i x, l[i]? = some x → x.i = s + i) → ∀ (p : Nat) (x : Inf), l[p]? = some x → cnt c l (s + p + 1) = cnt c l (s + p) + if c x then 1 else 0
  | [], _, _, p, x, h => by simp at h
  | y :: l, s, hi, p, x, h => by
    have hy : y.i = s := by simpa using hi 0 y rfl
    have hi' : ∀ i x, l[i]? = some x → x.i = s + 1 + i := fun i x h => by have := hi (i + 1) x (by simpa using h); omega
    have hc : ∀ q, cnt c (y :: l) q = (if c y && Nat.blt y.i q then 1 else 0) + cnt c l q := fun q => by
      unfold cnt
      rw [List.filter_cons]
      cases c y && Nat.blt y.i q <;> simp [Nat.add_comm]
    cases p with
    | zero =>
      simp only [List.getElem?_cons_zero, Option.some.injEq] at h
      subst h
      have z : ∀ q, q ≤ s + 1 → cnt c l q = 0 := fun q hq => by
        unfold cnt
        rw [List.length_eq_zero_iff, List.filter_eq_nil_iff]
        intro z hz
        obtain ⟨i, hz⟩ := List.getElem?_of_mem hz
        have := hi' i z hz
        simp only [Bool.and_eq_true, Nat.blt_eq]
        omega
      rw [hc, hc, z _ (by omega), z _ (by omega)]
      have h1 : Nat.blt y.i (s + 0 + 1) = true := by rw [Nat.blt_eq]; omega
      have h2 : Nat.blt y.i (s + 0) = false := by
        cases h : Nat.blt y.i (s + 0) with
        | false => rfl
        | true => rw [Nat.blt_eq] at h; omega
      rw [h1, h2]; simp
    | succ p =>
      have ih := cnt_succ_aux c l (s + 1) hi' p x (by simpa using h)
      have e1 : s + 1 + p + 1 = s + (p + 1) + 1 := by omega
      have e2 : s + 1 + p = s + (p + 1) := by omega
      rw [e1, e2] at ih
      rw [hc, hc, ih]
      have h1 : Nat.blt y.i (s + (p + 1) + 1) = true := by rw [Nat.blt_eq]; omega
      have h2 : Nat.blt y.i (s + (p + 1)) = true := by rw [Nat.blt_eq]; omega
      rw [h1, h2]; omega

theorem cnt_succ {P : Program} {ops : List Oper} (c : Inf → Bool) {p : Nat} {x : Inf} (h : (infs P ops)[p]? = some x) : cnt c (infs P ops) (p + 1) = cnt c (infs P ops) p + if c x then 1 else 0 := by
  have := cnt_succ_aux c (infs P ops) 0 (fun i x h => by rw [(infs_at h).1]; omega) p x h
  simpa using this

end Go.Proofs.YtlkbahknmbgjmaaGreat.Ev
