/-
  How a history that comes in is read: of each event its time.
  No conditions.
-/
import Derived.Test.YtgabaljmepgeiaaPl
import Derived.Deep.Slices
import Derived.Deep.Fields
import Derived.ProofKit
namespace Go.Proofs.Ytgabaljmepgeiaa
open Go.ChangeShapes Go.WideShapes Go.ChangeAt Go.RowKit Go.Deep

theorem own : ownKnob Try.prog.godebug = none := by kernel_rfl
theorem laidOut : laidOutB Try.prog = true := by kernel_rfl
theorem cellsOf46 : Try.prog.cellsOf 46 = 6 := by kernel_rfl
theorem cellsOf44 : Try.prog.cellsOf 44 = 5 := by kernel_rfl
theorem cellsOf42 : Try.prog.cellsOf 42 = 3 := by kernel_rfl
theorem cellsOf23 : Try.prog.cellsOf 23 = 1 := by kernel_rfl
theorem cellsOf3 : Try.prog.cellsOf 3 = 1 := by kernel_rfl

section
variable {H : Type} {enc : TypeId × Value → H} {w : World} {base : Nat} {spare : Nat → Bool} {held : Bool}

theorem trod_float {P : Program} {t : TypeId} {fuel : Nat} {cs : List Value} {x : DataW H × List MemPlace} {k : FloatKind} (ht : P.underlying t = some (.float k)) (h : DataW.trod enc P w base spare held fuel t cs = some x) :
    ∃ b, cs = [.float k b] ∧ x = (.lit (.float k b), []) ∧ (Lit.float k b).wf = true := by
  cases fuel with
  | zero => simp [DataW.trod] at h
  | succ n =>
    unfold DataW.trod at h
    rw [ht] at h
    split at h <;> simp_all

/-- An event that was handled, as six cells. -/
theorem trod_done {fuel : Nat} {cs : List Value} {x : DataW H × List MemPlace} (h : DataW.trod enc Try.prog w base spare held fuel 46 cs = some x) :
    ∃ (b : Nat) (c1 c2 c3 c4 c5 : Int), cs = [.float .f64 b, .int .i64 c1, .int .i64 c2, .int .i64 c3, .int .i64 c4, .int .i64 c5] ∧ b < 18446744073709551616 := by
  obtain ⟨xs, n, _, _, hl, _, hf⟩ := DataW.trod_struct Try.underlying46 h
  rw [cellsOf46] at hl
  match cs, hl with
  | [v0, v1, v2, v3, v4, v5], _ =>
    have h0 : DataW.trod enc Try.prog w base spare held n 44 (([v0, v1, v2, v3, v4, v5].drop 0).take (Try.prog.cellsOf 44)) = xs[0]? := hf 0 _ rfl
    have h1 : DataW.trod enc Try.prog w base spare held n 3 (([v0, v1, v2, v3, v4, v5].drop 5).take (Try.prog.cellsOf 3)) = xs[1]? := hf 1 _ rfl
    rw [cellsOf44] at h0
    rw [cellsOf3] at h1
    simp only [List.drop, List.take] at h0 h1
    cases hx0 : xs[0]? with
    | none => simp_all
    | some x0 =>
      cases hx1 : xs[1]? with
      | none => simp_all
      | some x1 =>
        rw [hx0] at h0
        rw [hx1] at h1
        obtain ⟨c5, e5, _, _⟩ := DataW.trod_int Try.underlying3 h1
        obtain ⟨ys, m, _, _, _, hly, hg⟩ := DataW.trod_struct Try.underlying44 h0
        have g0 : DataW.trod enc Try.prog w base spare held m 42 (([v0, v1, v2, v3, v4].drop 0).take (Try.prog.cellsOf 42)) = ys[0]? := hg 0 _ rfl
        have g1 : DataW.trod enc Try.prog w base spare held m 3 (([v0, v1, v2, v3, v4].drop 3).take (Try.prog.cellsOf 3)) = ys[1]? := hg 1 _ rfl
        have g2 : DataW.trod enc Try.prog w base spare held m 3 (([v0, v1, v2, v3, v4].drop 4).take (Try.prog.cellsOf 3)) = ys[2]? := hg 2 _ rfl
        rw [cellsOf42] at g0
        rw [cellsOf3] at g1 g2
        simp only [List.drop, List.take] at g0 g1 g2
        match ys, hly with
        | [y0, y1, y2], _ =>
          obtain ⟨c3, e3, _, _⟩ := DataW.trod_int Try.underlying3 g1
          obtain ⟨c4, e4, _, _⟩ := DataW.trod_int Try.underlying3 g2
          obtain ⟨zs, m2, _, _, _, hlz, hk⟩ := DataW.trod_struct Try.underlying42 g0
          have k0 : DataW.trod enc Try.prog w base spare held m2 23 (([v0, v1, v2].drop 0).take (Try.prog.cellsOf 23)) = zs[0]? := hk 0 _ rfl
          have k1 : DataW.trod enc Try.prog w base spare held m2 3 (([v0, v1, v2].drop 1).take (Try.prog.cellsOf 3)) = zs[1]? := hk 1 _ rfl
          have k2 : DataW.trod enc Try.prog w base spare held m2 3 (([v0, v1, v2].drop 2).take (Try.prog.cellsOf 3)) = zs[2]? := hk 2 _ rfl
          rw [cellsOf23] at k0
          rw [cellsOf3] at k1 k2
          simp only [List.drop, List.take] at k0 k1 k2
          match zs, hlz with
          | [z0, z1, z2], _ =>
            obtain ⟨b, e0, _, hw⟩ := trod_float Try.underlying23 k0
            obtain ⟨c1, e1, _, _⟩ := DataW.trod_int Try.underlying3 k1
            obtain ⟨c2, e2, _, _⟩ := DataW.trod_int Try.underlying3 k2
            simp at e0 e1 e2 e3 e4 e5
            subst e0 e1 e2 e3 e4 e5
            exact ⟨b, c1, c2, c3, c4, c5, rfl, by simpa [Lit.wf] using hw⟩

/-- What reads as a slice is one. -/
theorem slice_of {fuel : Nat} {v : Value} {x : DataW H × List MemPlace} (h : DataW.trod enc Try.prog w base spare held fuel 22 [v] = some x) : ∃ a n c, v = .slice a n c := by
  rcases DataW.trod_slice Try.underlying22 h with ⟨hcs, _⟩ | ⟨a, len, cap, _, _, _, _, hcs, _⟩
  · simp at hcs; exact ⟨_, _, _, hcs⟩
  · simp at hcs; exact ⟨_, _, _, hcs⟩

theorem cell_spot {w : World} {a : Addr} {v : Value} (h : w.cell? a = some v) : a.spot = none := by
  unfold World.cell? at h
  split at h
  · split at h
    · cases h
    · rename_i hs; simpa using hs
  · cases h

theorem add_lit (b off : Nat) (n : Nat) : (⟨b, off, none⟩ : Addr).add n = ⟨b, off + n, none⟩ := by unfold Addr.add; split <;> simp_all

/-- A history that comes in. -/
theorem open_hist {fuel : Nat} {a0 : Option Addr} {len cap : Nat} {x : DataW H × List MemPlace} (h : DataW.trod enc Try.prog w base (fun _ => true) held fuel 22 [.slice a0 len cap] = some x) :
    ∃ D : List Nat, Hst w w.heap.size a0 len D ∧ (∀ b ∈ D, b < 18446744073709551616) ∧ len ≤ cap ∧ cap ≤ maxLen := by
  rcases open_slice Try.underlying22 h with ⟨hcs, _⟩ | ⟨a, len', cap', m, n, DD, Pl, hcs, _, hl, hm, hmm, _, hi⟩
  · simp at hcs
    obtain ⟨rfl, rfl, rfl⟩ := hcs
    exact ⟨[], ⟨rfl, fun h => by omega⟩, fun b hb => (by cases hb), Nat.le_refl _, by simp [maxLen]⟩
  · simp at hcs
    obtain ⟨rfl, rfl, rfl⟩ := hcs
    simp at hmm
    subst hmm
    rw [cellsOf46] at hi
    have hcell : ∀ i, i < len → ∃ (b : Nat) (c1 c2 c3 c4 c5 : Int), b < 18446744073709551616 ∧ ∀ j, j < 6 → w.cell? ((a.add (i * 6)).add j) = [Value.float .f64 b, .int .i64 c1, .int .i64 c2, .int .i64 c3, .int .i64 c4, .int .i64 c5][j]? := fun i hil => by
      obtain ⟨cs', hc, ht⟩ := hi i (by omega)
      obtain ⟨b, c1, c2, c3, c4, c5, rfl, hb⟩ := trod_done ht
      exact ⟨b, c1, c2, c3, c4, c5, hb, (World.cells?_some hc).2.2⟩
    refine ⟨(List.range len).map fun i => match w.cell? (a.add (i * 6)) with | some (.float _ b) => b | _ => 0, ⟨by simp, fun hp => ?_⟩, fun b hb => ?_, hl, hm⟩
    · obtain ⟨b0, _, _, _, _, _, _, h0⟩ := hcell 0 hp
      have h00 := h0 0 (by omega)
      simp [Addr.add] at h00
      have hs := cell_spot h00
      obtain ⟨ab, ao, sp⟩ := a
      simp only at hs
      subst hs
      refine ⟨ab, ao, rfl, World.block_lt_of_cell? w _ h00, fun i hi2 => ?_⟩
      obtain ⟨b, c1, c2, c3, c4, c5, _, hj⟩ := hcell i hi2
      simp only [add_lit] at hj
      have hj0 := hj 0 (by omega)
      simp at hj0
      refine ⟨c1, c2, c3, c4, c5, ?_, hj 1 (by omega), hj 2 (by omega), hj 3 (by omega), hj 4 (by omega), hj 5 (by omega)⟩
      simp [hi2, add_lit]
    · obtain ⟨i, hi2, rfl⟩ := List.mem_map.1 hb
      obtain ⟨b, c1, c2, c3, c4, c5, hb2, hj⟩ := hcell i (List.mem_range.1 hi2)
      have hj0 := hj 0 (by omega)
      simp [Addr.add] at hj0
      have e : w.cell? (a.add (i * 6)) = some (.float .f64 b) := by
        simpa [Addr.add] using hj0
      rw [e]
      exact hb2

end
end Go.Proofs.Ytgabaljmepgeiaa
