/-
  A history's times: as they come (the reference), and in order (the program).
  No conditions but that the history is read.
-/
import Derived.Test.YtgabaljmepgeiaaLf
import Derived.Outline
import Derived.LoopTactic
namespace Go.Proofs.Ytgabaljmepgeiaa
open Go.RowKit

/-- The history that a slice reads as: of each event its time's bits. -/
def Hst (w : World) (B : Nat) (A : Option Addr) (n : Nat) (D : List Nat) : Prop :=
  D.length = n ∧ (0 < n → ∃ b off, A = some ⟨b, off, none⟩ ∧ b < B ∧ ∀ i, i < n → ∃ c1 c2 c3 c4 c5 : Int,
    w.cell? ⟨b, off + i * 6, none⟩ = some (.float .f64 (D[i]?.getD 0)) ∧ w.cell? ⟨b, off + i * 6 + 1, none⟩ = some (.int .i64 c1) ∧ w.cell? ⟨b, off + i * 6 + 2, none⟩ = some (.int .i64 c2) ∧
    w.cell? ⟨b, off + i * 6 + 3, none⟩ = some (.int .i64 c3) ∧ w.cell? ⟨b, off + i * 6 + 4, none⟩ = some (.int .i64 c4) ∧ w.cell? ⟨b, off + i * 6 + 5, none⟩ = some (.int .i64 c5))

def tms (D : List Nat) : List Nat := D.filterMap nrm

theorem info23 : (Try.prog.info? 23).map (fun i => (i.zero, i.size, i.bytes)) = some (some (.float .f64 0), 1, 8) := by kernel_rfl

abbrev flt (l : List Nat) : List Value := l.map (Value.float .f64)

theorem take_one (D : List Nat) (k : Nat) (h : k < D.length) : D.take (k + 1) = D.take k ++ [D[k]?.getD 0] := by
  rw [List.take_add_one, List.getElem?_eq_getElem h]; rfl
theorem tms_hit (D : List Nat) (k r : Nat) (h : k < D.length) (hr : nrm (D[k]?.getD 0) = some r) : tms (D.take (k + 1)) = tms (D.take k) ++ [r] := by
  rw [take_one D k h]; simp [tms, List.filterMap_append, hr]
theorem tms_miss (D : List Nat) (k : Nat) (h : k < D.length) (hr : nrm (D[k]?.getD 0) = none) : tms (D.take (k + 1)) = tms (D.take k) := by
  rw [take_one D k h]; simp [tms, List.filterMap_append, hr]
theorem tms_le (D : List Nat) (k : Nat) : (tms (D.take k)).length ≤ k := Nat.le_trans (List.length_filterMap_le _ _) (List.length_take_le _ _)

set_option maxHeartbeats 1000000 in
theorem timesR_any (A : Option Addr) (n c : Nat) (D : List Nat) (w : World) (hD : Hst w w.heap.size A n D) (hn : n ≤ 2932031007403) :
    Calls Try.prog 25 #[.slice A n c] w fun e w' => ∃ v, e = .returned v ∧ w'.ownsRow w.heap.size 23 1 v (tms D).length (flt (tms D)) ∧ Below w.heap.size w w' := by
  obtain ⟨i0, hi0, hz0, hz1, hz2⟩ := info_parts info23
  have HD := Lib.hid hD
  have hDl := Lib.hid hD.1
  clear hD
  go_enter Try.func25, Try.ntmps25
  go_wp2
  go_loopw [3, 4] (fun v i wr => ∃ k : Nat, k ≤ n ∧ i = .int .i64 k ∧ wr.ownsRow w.heap.size 23 1 v (tms (D.take k)).length (flt (tms (D.take k))) ∧ Below w.heap.size w wr) (fun _ i _ => n - (intOf i).toNat)
  case atStart => exact ⟨0, Nat.zero_le _, rfl, World.ownsRow_nil _ _ _ _, Below.refl _ _⟩
  case round =>
    obtain ⟨k, hk, rfl, hown, hb⟩ := hrel
    have hle := tms_le D k
    have hsz := hb.size
    by_cases hlt : k < n
    · obtain ⟨b, off, rfl, hbB, hcs⟩ := HD.out.2 (by omega)
      obtain ⟨c1, c2, c3, c4, c5, h0, -⟩ := hcs k hlt
      have h0 := (hb.cell (p := ⟨b, off + k * 6, none⟩) hbB).trans h0
      clear hcs
      have hcon := norm2_any (D[k]?.getD 0) wr
      cases hx : nrm (D[k]?.getD 0) with
      | none =>
        have e : nrmV (D[k]?.getD 0) = .tuple #[.float .f64 0, .int .i64 7] := by simp [nrmV, hx]
        rw [e] at hcon
        have HM := Lib.hid (tms_miss D k (by rw [hDl.out]; exact hlt) hx)
        clear e hx
        go_wp2_with (go_at_call 36; refine hcon.mono ?_; rintro e w' ⟨rfl, rfl⟩)
        go_roundw
        case rel => exact ⟨k + 1, by omega, by go_num, by rw [HM.out]; exact hown, hb⟩
        case measure => simp [intOf]; omega
      | some r =>
        have e : nrmV (D[k]?.getD 0) = .tuple #[.float .f64 r, .int .i64 0] := by simp [nrmV, hx]
        rw [e] at hcon
        have HM := Lib.hid (tms_hit D k r (by rw [hDl.out]; exact hlt) hx)
        clear e hx
        go_wp2_with (first | (go_at_call 36; refine hcon.mono ?_; rintro e w' ⟨rfl, rfl⟩) | (at_builtin; refine wpList_append_own _ rfl _ _ 54 rfl w.heap.size 23 i0 (.float .f64 0) 1 8 Try.underlying54 hi0 hz0 hz1 hz2 rfl (by decide) _ _ _ rfl (hown.alloc _) ⟨wr.heap.size, 0, none⟩ 1 1 [.float .f64 r] rfl rfl (cell_one_new _ _ _) (by simp [Value.oneCell']) (by simp only [maxLen]; omega) (by omega) (by simp; omega) ?_; intro v' w1 hown' hgrow _))
        go_roundw
        case rel => exact ⟨k + 1, by omega, by go_num, by rw [HM.out]; simpa [flt] using hown', (hb.alloc hsz _).grown hgrow (by simp; omega) (fun j hj => by have := (hown.lt j hj).1; omega)⟩
        case measure => simp [intOf]; omega
    · have : k = n := by omega
      subst this
      go_wp2
      go_ret
      have hl := hDl.out
      rw [← hl, List.take_length] at hown
      exact ⟨_, rfl, hown, hb⟩

end Go.Proofs.Ytgabaljmepgeiaa
