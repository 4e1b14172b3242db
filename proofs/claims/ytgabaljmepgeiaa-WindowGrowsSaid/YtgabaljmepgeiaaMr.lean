/-
  What the reference's Most comes to: of the times as they come.
  No conditions but that the history is read.
-/
import Derived.Test.YtgabaljmepgeiaaMo
import Derived.BigRegion
namespace Go.Proofs.Ytgabaljmepgeiaa
open Go.RowKit

theorem timesR_row (A : Option Addr) (n c : Nat) (D : List Nat) (B : Nat) (w0 w : World) (hD : Hst w0 B A n D) (hb : RowKit.Below B w0 w) (hB : B ≤ w.heap.size) (hn : n ≤ 2932031007403) :
    Calls Try.prog 25 #[.slice A n c] w fun e w' => ∃ A' c', e = .returned (.slice A' (tms D).length c') ∧ Row w' w.heap.size (.slice A' (tms D).length c') (tms D) ∧ RowKit.Below w.heap.size w w' :=
  (timesR_any A n c D w ((hD.later hb).more hB) hn).mono fun _ _ ⟨v, he, ho, hb⟩ => by
    have h := row_of_own ho (by have := List.length_filterMap_le nrm D; have := hD.1; unfold tms; omega)
    obtain ⟨A', c', rfl, _⟩ := id h
    exact ⟨A', c', he, h, hb⟩

abbrev ltF (x a : Nat) : Bool := fo x a == some .lt

def mostRStep (T : List Nat) (w : Nat) (p : Nat × Nat) (a : Nat) : Nat × Nat :=
  if p.1 < cnt T a w ∨ (cnt T a w = p.1 ∧ 0 < cnt T a w ∧ ltF a p.2 = true) then (cnt T a w, a) else p
def mostRTo (T : List Nat) (w k : Nat) : Nat × Nat := (T.take k).foldl (mostRStep T w) (0, 0)
def mostR (T : List Nat) (w : Nat) : Nat × Nat := T.foldl (mostRStep T w) (0, 0)

theorem mostRTo_one (S : List Nat) (w k : Nat) (h : k < S.length) : mostRTo S w (k + 1) = mostRStep S w (mostRTo S w k) (S[k]?.getD 0) := by
  unfold mostRTo; rw [take_one S k h, List.foldl_append]; rfl
theorem mostRTo_all (S : List Nat) (w : Nat) : mostRTo S w S.length = mostR S w := by unfold mostRTo mostR; rw [List.take_length]

set_option maxHeartbeats 2000000 in
theorem mostR_any (A : Option Addr) (n c wd : Nat) (D : List Nat) (w : World) (hD : Hst w w.heap.size A n D) (hn : n ≤ 2932031007403) :
    Calls Try.prog 11 #[.slice A n c, .float .f64 wd] w fun e w' => e = .returned (.tuple #[.int .i64 (mostR (tms D) wd).1, .float .f64 (mostR (tms D) wd).2]) ∧ RowKit.Below w.heap.size w w' := by
  have hcon := timesR_row A n c D w.heap.size w w hD (RowKit.Below.refl _ _) (Nat.le_refl _) hn
  have HC := Lib.hid hcon
  clear hcon hD
  go_enter Try.func11, Try.ntmps11
  go_wp2_with (go_at_call 25; refine HC.out.mono ?_; rintro e w1 ⟨A1, c1, rfl, hrow, hb1⟩)
  obtain ⟨A2, c2, he, hc, hn2, hcell⟩ := hrow
  cases he
  have HCc := Lib.hid hcell
  have HB := Lib.hid hb1
  clear hcell hb1
  generalize hT : tms D = T at *
  have HT := Lib.hid hT
  clear hT
  go_loopw [7, 8, 9] (fun s f i wr => ∃ k q : Nat, k ≤ T.length ∧ i = .int .i64 k ∧ s = .int .i64 (mostRTo T wd k).1 ∧ f = .float .f64 (mostRTo T wd k).2 ∧ (mostRTo T wd k).1 ≤ T.length ∧ wr = w1.drewN q) (fun _ _ i _ => T.length - (intOf i).toNat)
  case atStart => exact ⟨0, 0, Nat.zero_le _, rfl, rfl, rfl, Nat.zero_le _, rfl⟩
  case round =>
    obtain ⟨i, q, hi, rfl, rfl, rfl, hm, rfl⟩ := hrel
    by_cases hlt : i < T.length
    · obtain ⟨g, rfl, hB, hg, hcs⟩ := HCc.out (by omega)
      have ha := hcs i hlt
      have H1 := Lib.hid (mostRTo_one T wd i hlt)
      have hcl := cnt_len T (T[i]?.getD 0) wd
      have HS := Lib.hid hcs
      clear hcs
      generalize T[i]?.getD 0 = a at ha H1 hcl
      go_wp2
      go_loopw [10, 11] (fun s j wr => ∃ k q : Nat, k ≤ T.length ∧ j = .int .i64 k ∧ s = .int .i64 (cnt (T.take k) a wd) ∧ wr = w1.drewN q) (fun _ j _ => T.length - (intOf j).toNat)
      case atStart => exact ⟨0, q, Nat.zero_le _, rfl, rfl, rfl⟩
      case round =>
        obtain ⟨k, q, hk, rfl, rfl, rfl⟩ := hrel
        have hle := cnt_le T a wd k
        by_cases hlt2 : k < T.length
        · have h0 := HS.out k hlt2
          have H3 := Lib.hid (cnt_one T a wd k hlt2)
          generalize T[k]?.getD 0 = x at h0 H3
          have hiz : (i : Int) < (T.length : Int) := by omega
          have hkz : (k : Int) < (T.length : Int) := by omega
          cases hge : geF x a with
          | false =>
            have H2 := Lib.hid (show inW a wd x = false by unfold inW; rw [hge]; rfl)
            go_wp2
            go_quiet (fail)
            go_wp2
            go_roundw
            case rel => exact ⟨k + 1, _, by omega, by go_num, by rw [H3.out, H2.out]; rfl, rfl⟩
            case measure => simp [intOf]; omega
          | true =>
            cases hs : Ieee.double.sub x a with
            | none =>
              have H2 := Lib.hid (show inW a wd x = false by unfold inW dlt; rw [hs, Bool.and_false])
              have hr := fun w => run_sub_nan (P := Try.prog) 23 x a hs w
              have hl : ∀ w, (fo (nanOf w x a) wd == some .lt) = false := fun w => by rw [fo_none_l (nanOf_nan _ _ _)]; rfl
              clear hs
              go_wp2
              go_region
              go_wp2
              go_roundw
              case rel => exact ⟨k + 1, _, by omega, by go_num, by rw [H3.out, H2.out]; rfl, rfl⟩
              case measure => simp [intOf]; omega
            | some r =>
              have hr := fun w => run_sub_num (P := Try.prog) 23 x a r hs w
              cases hl : (fo r wd == some .lt) with
              | false =>
                have H2 := Lib.hid (show inW a wd x = false by unfold inW dlt; rw [hs]; simp [hl])
                clear hs
                go_wp2
                go_quiet (fail)
                go_wp2
                go_roundw
                case rel => exact ⟨k + 1, _, by omega, by go_num, by rw [H3.out, H2.out]; rfl, rfl⟩
                case measure => simp [intOf]; omega
              | true =>
                have H2 := Lib.hid (show inW a wd x = true by unfold inW dlt; rw [hs, hge]; simp [hl])
                clear hs
                go_wp2
                go_quiet (fail)
                go_wp2
                go_roundw
                case rel => exact ⟨k + 1, _, by omega, by go_num, by rw [H3.out, H2.out]; go_num, rfl⟩
                case measure => simp [intOf]; omega
        · have : k = T.length := by omega
          subst this
          have HK := Lib.hid (show cnt (T.take T.length) a wd = cnt T a wd by rw [List.take_length])
          rw [HK.out]
          by_cases h1 : (mostRTo T wd i).1 < cnt T a wd
          · have H4 := Lib.hid (show mostRStep T wd (mostRTo T wd i) a = (cnt T a wd, a) by unfold mostRStep; rw [if_pos (.inl h1)])
            have h1z : ((mostRTo T wd i).1 : Int) < (cnt T a wd : Int) := by omega
            go_wp2
            go_roundw
            case rel => exact ⟨i + 1, _, by omega, by go_num, by rw [H1.out, H4.out], by rw [H1.out, H4.out], by rw [H1.out, H4.out]; exact hcl, rfl⟩
            case measure => simp [intOf]; omega
          · have h1z : ¬ ((mostRTo T wd i).1 : Int) < (cnt T a wd : Int) := by omega
            by_cases h2 : cnt T a wd = (mostRTo T wd i).1 ∧ 0 < cnt T a wd ∧ ltF a (mostRTo T wd i).2 = true
            · have H4 := Lib.hid (show mostRStep T wd (mostRTo T wd i) a = (cnt T a wd, a) by unfold mostRStep; rw [if_pos (.inr h2)])
              have h2z : ((cnt T a wd : Int) == ((mostRTo T wd i).1 : Int)) = true := by rw [beq_iff_eq]; omega
              have h3z : (0 : Int) < (cnt T a wd : Int) := by omega
              have h4 := h2.2.2
              clear h2
              go_wp2
              go_roundw
              case rel => exact ⟨i + 1, _, by omega, by go_num, by rw [H1.out, H4.out], by rw [H1.out, H4.out], by rw [H1.out, H4.out]; exact hcl, rfl⟩
              case measure => simp [intOf]; omega
            · have H4 := Lib.hid (show mostRStep T wd (mostRTo T wd i) a = mostRTo T wd i by unfold mostRStep; rw [if_neg (fun h => h.elim h1 h2)])
              by_cases h3 : cnt T a wd = (mostRTo T wd i).1
              · have h2z : ((cnt T a wd : Int) == ((mostRTo T wd i).1 : Int)) = true := by rw [beq_iff_eq]; omega
                by_cases h5 : 0 < cnt T a wd
                · have h3z : (0 : Int) < (cnt T a wd : Int) := by omega
                  have h4 : ltF a (mostRTo T wd i).2 = false := by
                    cases h : ltF a (mostRTo T wd i).2
                    · rfl
                    · exact absurd ⟨h3, h5, h⟩ h2
                  clear h2 h3
                  go_wp2
                  go_roundw
                  case rel => exact ⟨i + 1, _, by omega, by go_num, by rw [H1.out, H4.out], by rw [H1.out, H4.out], by rw [H1.out, H4.out]; exact hm, rfl⟩
                  case measure => simp [intOf]; omega
                · have h3z : ¬ (0 : Int) < (cnt T a wd : Int) := by omega
                  clear h2 h3
                  go_wp2
                  go_roundw
                  case rel => exact ⟨i + 1, _, by omega, by go_num, by rw [H1.out, H4.out], by rw [H1.out, H4.out], by rw [H1.out, H4.out]; exact hm, rfl⟩
                  case measure => simp [intOf]; omega
              · have h2z : ((cnt T a wd : Int) == ((mostRTo T wd i).1 : Int)) = false := by rw [beq_eq_false_iff_ne]; omega
                clear h2 h3
                go_wp2
                go_roundw
                case rel => exact ⟨i + 1, _, by omega, by go_num, by rw [H1.out, H4.out], by rw [H1.out, H4.out], by rw [H1.out, H4.out]; exact hm, rfl⟩
                case measure => simp [intOf]; omega
    · have : i = T.length := by omega
      subst this
      go_wp2
      go_ret2
      exact ⟨by rw [mostRTo_all, HT.out]; rfl, below_drewN HB.out q⟩

end Go.Proofs.Ytgabaljmepgeiaa
