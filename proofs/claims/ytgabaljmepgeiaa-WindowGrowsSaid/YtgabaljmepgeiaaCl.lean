/-
  The closures of Most and Close: how many times lie in a window; whether two are near.
  No conditions but that what they have captured is read.
-/
import Derived.Test.YtgabaljmepgeiaaTw
import Derived.Deep.QuietTactic
import Derived.BigQuiet
namespace Go.Proofs.Ytgabaljmepgeiaa
open Go.RowKit

/-- A slice of floats that reads as a list, in a block from B on. -/
def Row (w : World) (B : Nat) (v : Value) (S : List Nat) : Prop :=
  ∃ A c, v = .slice A S.length c ∧ S.length ≤ c ∧ S.length ≤ 2932031007403 ∧ (0 < S.length → ∃ g, A = some ⟨g, 0, none⟩ ∧ B ≤ g ∧ g < w.heap.size ∧ ∀ i, i < S.length → w.cell? ⟨g, i, none⟩ = some (.float .f64 (S[i]?.getD 0)))

theorem row_of_own {w : World} {B : Nat} {v : Value} {S : List Nat} (h : w.ownsRow B 23 1 v S.length (flt S)) (hn : S.length ≤ 2932031007403) : Row w B v S := by
  rcases h.2 with ⟨rfl, h0⟩ | ⟨g, cap, cur, rfl, hB, hg, hc, _⟩
  · exact ⟨none, 0, by rw [h0], by omega, hn, fun hp => by omega⟩
  · refine ⟨_, cap, rfl, hc, hn, fun _ => ⟨g, rfl, hB, (Array.getElem?_eq_some_iff.1 hg).1, fun i hi => ?_⟩⟩
    have := h.cells (g := g) rfl i (.float .f64 (S[i]?.getD 0)) (by simp [flt, List.getElem?_map, List.getElem?_eq_getElem hi])
    rwa [show (⟨g, 0, none⟩ : Addr).add i = ⟨g, i, none⟩ from by unfold Addr.add; split <;> simp_all] at this

theorem Row.later {w w' : World} {B : Nat} {v : Value} {S : List Nat} (h : Row w B v S) (hb : RowKit.Below w.heap.size w w') : Row w' B v S := by
  obtain ⟨A, c, rfl, hc, hn, h⟩ := h
  refine ⟨A, c, rfl, hc, hn, fun hp => ?_⟩
  obtain ⟨g, rfl, hB, hg, hcell⟩ := h hp
  exact ⟨g, rfl, hB, by have := hb.size; omega, fun i hi => (hb.cell (p := ⟨g, i, none⟩) hg).trans (hcell i hi)⟩

/-- 'x - a', as floats are subtracted, is below w. -/
def dlt (x a w : Nat) : Bool := match Ieee.double.sub x a with
  | some r => fo r w == some .lt
  | none => false

abbrev geF (x a : Nat) : Bool := fo x a == some .gt || fo x a == some .eq

/-- Does the time x lie in the window from a? -/
def inW (a w x : Nat) : Bool := geF x a && dlt x a w

def cnt (S : List Nat) (a w : Nat) : Nat := S.countP (inW a w)

theorem cnt_one (S : List Nat) (a w k : Nat) (h : k < S.length) : cnt (S.take (k + 1)) a w = cnt (S.take k) a w + if inW a w (S[k]?.getD 0) then 1 else 0 := by
  rw [take_one S k h]; unfold cnt; rw [List.countP_append, List.countP_singleton]

theorem cnt_le (S : List Nat) (a w k : Nat) : cnt (S.take k) a w ≤ k := Nat.le_trans List.countP_le_length (List.length_take_le _ _)

set_option maxHeartbeats 1000000 in
theorem most1_any (S : List Nat) (a wd bt bw B : Nat) (v : Value) (w : World) (hv : Row w B v S) (ht : w.cell? ⟨bt, 0, none⟩ = some v) (hw : w.cell? ⟨bw, 0, none⟩ = some (.float .f64 wd)) :
    Calls Try.prog 24 #[.float .f64 a, .pointer (some ⟨bt, 0, none⟩), .pointer (some ⟨bw, 0, none⟩)] w fun e w' => e = .returned (.int .i64 (cnt S a wd)) ∧ ∃ q, w.drewN q = w' := by
  obtain ⟨A, c, rfl, hc, hn, hcell⟩ := hv
  have HC := Lib.hid hcell
  clear hcell
  go_enter Try.func24, Try.ntmps24
  go_wp2
  go_loopw [5, 10] (fun s i wr => ∃ k q : Nat, k ≤ S.length ∧ i = .int .i64 k ∧ s = .int .i64 (cnt (S.take k) a wd) ∧ wr = w.drewN q) (fun _ i _ => S.length - (intOf i).toNat)
  case atStart => exact ⟨0, 0, Nat.zero_le _, rfl, rfl, rfl⟩
  case round =>
    obtain ⟨k, q, hk, rfl, rfl, rfl⟩ := hrel
    have hle := cnt_le S a wd k
    by_cases hlt : k < S.length
    · obtain ⟨g, rfl, hB, hg, hcs⟩ := HC.out (by omega)
      have h0 := hcs k hlt
      have H1 := Lib.hid (cnt_one S a wd k hlt)
      clear hcs
      generalize S[k]?.getD 0 = x at h0 H1
      cases hge : geF x a with
      | false =>
        have H2 := Lib.hid (show inW a wd x = false by unfold inW; rw [hge]; rfl)
        go_wp2
        go_roundw
        case rel => exact ⟨k + 1, q, by omega, by go_num, by rw [H1.out, H2.out]; rfl, rfl⟩
        case measure => simp [intOf]; omega
      | true =>
        cases hs : Ieee.double.sub x a with
        | none =>
          have H2 := Lib.hid (show inW a wd x = false by unfold inW dlt; rw [hs, Bool.and_false])
          have hr := fun w => run_sub_nan (P := Try.prog) 23 x a hs w
          have hl : (fo (nanOf (w.drewN q) x a) wd == some .lt) = false := by rw [fo_none_l (nanOf_nan _ _ _)]; rfl
          clear hs
          go_wp2
          go_roundw
          case rel => exact ⟨k + 1, q + 1, by omega, by go_num, by rw [H1.out, H2.out]; rfl, rfl⟩
          case measure => simp [intOf]; omega
        | some r =>
          have hr := fun w => run_sub_num (P := Try.prog) 23 x a r hs w
          cases hl : (fo r wd == some .lt) with
          | false =>
            have H2 := Lib.hid (show inW a wd x = false by unfold inW dlt; rw [hs]; simp [hl])
            clear hs
            go_wp2
            go_roundw
            case rel => exact ⟨k + 1, q, by omega, by go_num, by rw [H1.out, H2.out]; rfl, rfl⟩
            case measure => simp [intOf]; omega
          | true =>
            have H2 := Lib.hid (show inW a wd x = true by unfold inW dlt; rw [hs, hge]; simp [hl])
            clear hs
            go_wp2
            go_roundw
            case rel => exact ⟨k + 1, q, by omega, by go_num, by rw [H1.out, H2.out]; go_num, rfl⟩
            case measure => simp [intOf]; omega
    · have : k = S.length := by omega
      subst this
      go_wp2
      go_ret
      exact ⟨by rw [List.take_length]; rfl, q, rfl⟩

end Go.Proofs.Ytgabaljmepgeiaa
