/-
  A history turned round: the loop that builds it, and that it has the same events.
  No conditions but that the history is read.
-/
import Derived.Test.YtgabaljmepgeiaaOp
import Derived.Test.YtgabaljmepgeiaaPn
namespace Go.Proofs.Ytgabaljmepgeiaa
open Go.RowKit

/-- The history, turned round by t. -/
def rot (E : List Nat) (t k : Nat) : List Nat := (List.range k).map fun i => E[(i + t) % E.length]?.getD 0

theorem rot_one (E : List Nat) (t k : Nat) : rot E t (k + 1) = rot E t k ++ [E[(k + t) % E.length]?.getD 0] := by simp [rot, List.range_succ]

theorem rot_perm (E : List Nat) (t : Nat) : (rot E t E.length).Perm E := by
  rcases Nat.eq_zero_or_pos E.length with h0 | h0
  · have : E = [] := List.eq_nil_of_length_eq_zero h0
    subst this
    exact List.Perm.refl _
  · have hs := Nat.mod_lt t h0
    have e : rot E t E.length = E.drop (t % E.length) ++ E.take (t % E.length) := by
      apply List.ext_getElem
      · simp [rot]; omega
      · intro i h1 h2
        have hi : i < E.length := by simpa [rot] using h1
        have hm : (i + t) % E.length = (i + t % E.length) % E.length := by simp
        simp only [rot, List.getElem_map, List.getElem_range, hm]
        generalize t % E.length = s at *
        by_cases h : i + s < E.length
        · rw [Nat.mod_eq_of_lt h, List.getElem_append_left (by simp; omega), List.getElem_drop, List.getElem?_eq_getElem h]
          simp [Nat.add_comm]
        · have e2 : (i + s) % E.length = i + s - E.length := by rw [Nat.mod_eq_sub_mod (by omega), Nat.mod_eq_of_lt (by omega)]
          rw [e2, List.getElem_append_right (by simp; omega), List.getElem_take, List.getElem?_eq_getElem (by omega)]
          simp only [Option.getD_some, List.length_drop]
          congr 1
          omega
    rw [e]
    exact List.perm_append_comm.trans (by rw [List.take_append_drop])

/-- So many events, laid one behind the other. -/
def Evs (xs : List Value) (k : Nat) (D : List Nat) : Prop :=
  xs.length = k * 6 ∧ D.length = k ∧ ∀ i, i < k → ∃ c1 c2 c3 c4 c5 : Int, ∀ j, j < 6 → xs[i * 6 + j]? = [Value.float .f64 (D[i]?.getD 0), .int .i64 c1, .int .i64 c2, .int .i64 c3, .int .i64 c4, .int .i64 c5][j]?

theorem Evs.nil : Evs [] 0 [] := ⟨rfl, rfl, fun i h => by omega⟩

theorem Evs.snoc {xs : List Value} {k : Nat} {D : List Nat} (h : Evs xs k D) (b : Nat) (c1 c2 c3 c4 c5 : Int) :
    Evs (xs ++ [.float .f64 b, .int .i64 c1, .int .i64 c2, .int .i64 c3, .int .i64 c4, .int .i64 c5]) (k + 1) (D ++ [b]) := by
  obtain ⟨h1, h2, h3⟩ := h
  refine ⟨by simp [h1]; omega, by simp [h2], fun i hi => ?_⟩
  rcases Nat.lt_or_ge i k with hik | hik
  · obtain ⟨a1, a2, a3, a4, a5, ha⟩ := h3 i hik
    refine ⟨a1, a2, a3, a4, a5, fun j hj => ?_⟩
    rw [List.getElem?_append_left (by omega), List.getElem?_append_left (by omega)]
    exact ha j hj
  · have : i = k := by omega
    subst this
    refine ⟨c1, c2, c3, c4, c5, fun j hj => ?_⟩
    rw [List.getElem?_append_right (by omega), h1, Nat.add_sub_cancel_left, List.getElem?_append_right (by omega), h2, Nat.sub_self]
    rfl

theorem Evs.app {xs ys : List Value} {k m : Nat} {D F : List Nat} (h : Evs xs k D) (h' : Evs ys m F) : Evs (xs ++ ys) (k + m) (D ++ F) := by
  obtain ⟨h1, h2, h3⟩ := h
  obtain ⟨g1, g2, g3⟩ := h'
  refine ⟨by simp [h1, g1]; omega, by simp [h2, g2], fun i hi => ?_⟩
  rcases Nat.lt_or_ge i k with hik | hik
  · obtain ⟨a1, a2, a3, a4, a5, ha⟩ := h3 i hik
    refine ⟨a1, a2, a3, a4, a5, fun j hj => ?_⟩
    rw [List.getElem?_append_left (by omega), List.getElem?_append_left (by omega)]
    exact ha j hj
  · obtain ⟨a1, a2, a3, a4, a5, ha⟩ := g3 (i - k) (by omega)
    refine ⟨a1, a2, a3, a4, a5, fun j hj => ?_⟩
    rw [List.getElem?_append_right (by omega), List.getElem?_append_right (by omega), h1, h2, show i * 6 + j - k * 6 = (i - k) * 6 + j by omega]
    exact ha j hj

/-- What the call owns reads as a history. -/
theorem hst_of_own {w : World} {B : Nat} {v : Value} {k : Nat} {xs : List Value} {D : List Nat} (h : w.ownsRow B 46 6 v k xs) (he : Evs xs k D) : ∃ A c, v = .slice A k c ∧ k ≤ c ∧ Hst w w.heap.size A k D := by
  rcases h.2 with ⟨rfl, h0⟩ | ⟨g, cap, cur, rfl, hB, hg, hc, _⟩
  · subst h0
    exact ⟨none, 0, rfl, by omega, he.2.1, fun hp => by omega⟩
  · refine ⟨_, cap, rfl, hc, he.2.1, fun _ => ⟨g, 0, rfl, (Array.getElem?_eq_some_iff.1 hg).1, fun i hi => ?_⟩⟩
    obtain ⟨c1, c2, c3, c4, c5, hj⟩ := he.2.2 i hi
    have hcell : ∀ j, j < 6 → w.cell? ⟨g, i * 6 + j, none⟩ = xs[i * 6 + j]? := fun j hj6 => by
      have hlt : i * 6 + j < xs.length := by rw [he.1]; omega
      have := h.cells (g := g) rfl (i * 6 + j) xs[i * 6 + j] (List.getElem?_eq_getElem hlt)
      rw [show (⟨g, 0, none⟩ : Addr).add (i * 6 + j) = ⟨g, i * 6 + j, none⟩ from by unfold Addr.add; split <;> simp_all] at this
      rw [this, List.getElem?_eq_getElem hlt]
    simp only [Nat.zero_add]
    exact ⟨c1, c2, c3, c4, c5, (hcell 0 (by omega)).trans (hj 0 (by omega)), (hcell 1 (by omega)).trans (hj 1 (by omega)), (hcell 2 (by omega)).trans (hj 2 (by omega)), (hcell 3 (by omega)).trans (hj 3 (by omega)), (hcell 4 (by omega)).trans (hj 4 (by omega)), (hcell 5 (by omega)).trans (hj 5 (by omega))⟩

theorem info46 : (Try.prog.info? 46).map (fun i => (i.zero, i.size, i.bytes)) = some (some (.agg #[.float .f64 0, .int .i64 0, .int .i64 0, .int .i64 0, .int .i64 0, .int .i64 0]), 6, 48) := by kernel_rfl

theorem cells_new (w : World) (vs : List Value) (T : TypeId) (n : Nat) (h : n = w.heap.size) : ∀ j u, vs[j]? = some u → (w.alloc (.cells vs.toArray T)).cell? ((⟨n, 0, none⟩ : Addr).add j) = some u := by
  subst h
  intro j u hu
  rw [show (⟨w.heap.size, 0, none⟩ : Addr).add j = ⟨w.heap.size, j, none⟩ from by unfold Addr.add; split <;> simp_all]
  rw [cell_of_row _ _ j _ T (0, 0) (heap_alloc_new w _)]
  simpa using hu

end Go.Proofs.Ytgabaljmepgeiaa
