/-
  What both Gaps come to: over the times in order, and over the times as they come.
  No conditions but that the history is read.
-/
import Derived.Test.YtgabaljmepgeiaaMr
namespace Go.Proofs.Ytgabaljmepgeiaa
open Go.RowKit

abbrev gtF (x a : Nat) : Bool := fo x a == some .gt

/-- The greater one of what was found and of 'b - a'. -/
def gapStep (out a b : Nat) : Nat := match Ieee.double.sub b a with
  | some r => if gtF r out then r else out
  | none => out

/-- Behind the first k + 1 times. -/
def gapTo (S : List Nat) : Nat → Nat
  | 0 => 0
  | j + 1 => gapStep (gapTo S j) (S[j]?.getD 0) (S[j + 1]?.getD 0)

def gapS (S : List Nat) : Nat := gapTo S (S.length - 1)

set_option maxHeartbeats 2000000 in
theorem gap_any (A : Option Addr) (n c : Nat) (D : List Nat) (hDb : ∀ b ∈ D, b < 18446744073709551616) (w : World) (hD : Hst w w.heap.size A n D) (hn : n ≤ 2932031007403) :
    Calls Try.prog 17 #[.slice A n c] w fun e w' => e = .returned (.tuple #[.float .f64 (gapS (srt D)), .bool (decide ((1 : Int) < ((srt D).length : Int)))]) ∧ RowKit.Below w.heap.size w w' := by
  have hcon := times_row A n c D hDb w.heap.size w w hD (RowKit.Below.refl _ _) (Nat.le_refl _) hn
  have HC := Lib.hid hcon
  clear hcon hD hDb
  go_enter Try.func17, Try.ntmps17
  go_wp2_with (go_at_call 23; refine HC.out.mono ?_; rintro e w1 ⟨A1, c1, rfl, hrow, hb1⟩)
  obtain ⟨A2, c2, he, hc, hn2, hcell⟩ := hrow
  cases he
  have HCc := Lib.hid hcell
  have HB := Lib.hid hb1
  clear hcell hb1
  generalize hT : srt D = S at *
  have HT := Lib.hid hT
  clear hT
  go_loopw [5, 6] (fun f i wr => ∃ j q : Nat, (j + 1 ≤ S.length ∨ j = 0) ∧ i = .int .i64 ((j : Int) + 1) ∧ f = .float .f64 (gapTo S j) ∧ wr = w1.drewN q) (fun _ i _ => S.length - (intOf i).toNat)
  case atStart => exact ⟨0, 0, .inr rfl, rfl, rfl, rfl⟩
  case round =>
    obtain ⟨j, q, hj, rfl, rfl, rfl⟩ := hrel
    have hjl : j ≤ 2932031007403 := by omega
    have e1 : IntKind.i64.wrap ((j : Int) + 1 - 1) = (j : Int) := by rw [IntKind.wrap_i64]; omega
    by_cases hlt : j + 1 < S.length
    · obtain ⟨g, rfl, hB, hg, hcs⟩ := HCc.out (by omega)
      have ha := hcs j (by omega)
      have hb := hcs (j + 1) (by omega)
      clear hcs
      have hz1 : (j : Int) + 1 < (S.length : Int) := by omega
      have hz2 : (j : Int) < (S.length : Int) := by omega
      have e2 : ((j : Int) + 1).toNat = j + 1 := by omega
      have H1 := Lib.hid (show gapTo S (j + 1) = gapStep (gapTo S j) (S[j]?.getD 0) (S[j + 1]?.getD 0) from rfl)
      generalize S[j]?.getD 0 = a at ha H1
      generalize S[j + 1]?.getD 0 = b at hb H1
      cases hs : Ieee.double.sub b a with
      | none =>
        have H2 := Lib.hid (show gapStep (gapTo S j) a b = gapTo S j by unfold gapStep; rw [hs])
        have hr := fun w => run_sub_nan (P := Try.prog) 23 b a hs w
        have hl : ∀ w, (fo (nanOf w b a) (gapTo S j) == some .gt) = false := fun w => by rw [fo_none_l (nanOf_nan _ _ _)]; rfl
        clear hs
        go_wp2
        go_region
        go_wp2
        go_roundw
        case rel => exact ⟨j + 1, _, .inl (by omega), by go_num, by rw [H1.out, H2.out], rfl⟩
        case measure => simp [intOf]; omega
      | some r =>
        have hr := fun w => run_sub_num (P := Try.prog) 23 b a r hs w
        cases hl : gtF r (gapTo S j) with
        | false =>
          have H2 := Lib.hid (show gapStep (gapTo S j) a b = gapTo S j by unfold gapStep; rw [hs]; simp only; rw [if_neg (by rw [hl]; exact Bool.false_ne_true)])
          clear hs
          go_wp2
          go_quiet (fail)
          go_wp2
          go_roundw
          case rel => exact ⟨j + 1, _, .inl (by omega), by go_num, by rw [H1.out, H2.out], rfl⟩
          case measure => simp [intOf]; omega
        | true =>
          have H2 := Lib.hid (show gapStep (gapTo S j) a b = r by unfold gapStep; rw [hs]; simp only; rw [if_pos hl])
          clear hs
          go_wp2
          go_quiet (fail)
          go_wp2
          go_roundw
          case rel => exact ⟨j + 1, _, .inl (by omega), by go_num, by rw [H1.out, H2.out], rfl⟩
          case measure => simp [intOf]; omega
    · have hz1 : ¬ (j : Int) + 1 < (S.length : Int) := by omega
      have H3 := Lib.hid (show gapTo S j = gapS S by unfold gapS; congr 1; omega)
      go_wp2
      go_ret2
      refine ⟨?_, below_drewN HB.out q⟩
      rw [HT.out, H3.out]
      rfl

/-- The least of those that are greater than x: as it is found, one by one. -/
def nextStep (x : Nat) (p : Nat × Bool) (y : Nat) : Nat × Bool := if gtF y x && (!p.2 || ltF y p.1) then (y, true) else p
def nextTo (T : List Nat) (x k : Nat) : Nat × Bool := (T.take k).foldl (nextStep x) (0, false)
def nextOf (T : List Nat) (x : Nat) : Nat × Bool := T.foldl (nextStep x) (0, false)

theorem nextTo_one (S : List Nat) (x k : Nat) (h : k < S.length) : nextTo S x (k + 1) = nextStep x (nextTo S x k) (S[k]?.getD 0) := by
  unfold nextTo; rw [take_one S k h, List.foldl_append]; rfl
theorem nextTo_all (S : List Nat) (x : Nat) : nextTo S x S.length = nextOf S x := by unfold nextTo nextOf; rw [List.take_length]

def gapRStep (T : List Nat) (best x : Nat) : Nat := if (nextOf T x).2 then gapStep best x (nextOf T x).1 else best
def gapRTo (T : List Nat) (k : Nat) : Nat := (T.take k).foldl (gapRStep T) 0
def gapR (T : List Nat) : Nat := T.foldl (gapRStep T) 0
theorem gapRTo_one (S : List Nat) (k : Nat) (h : k < S.length) : gapRTo S (k + 1) = gapRStep S (gapRTo S k) (S[k]?.getD 0) := by
  unfold gapRTo; rw [take_one S k h, List.foldl_append]; rfl
theorem gapRTo_all (S : List Nat) : gapRTo S S.length = gapR S := by unfold gapRTo gapR; rw [List.take_length]

set_option maxHeartbeats 4000000 in
theorem gapR_any (A : Option Addr) (n c : Nat) (D : List Nat) (w : World) (hD : Hst w w.heap.size A n D) (hn : n ≤ 2932031007403) :
    Calls Try.prog 18 #[.slice A n c] w fun e w' => e = .returned (.tuple #[.float .f64 (gapR (tms D)), .bool (decide ((1 : Int) < ((tms D).length : Int)))]) ∧ RowKit.Below w.heap.size w w' := by
  have hcon := timesR_row A n c D w.heap.size w w hD (RowKit.Below.refl _ _) (Nat.le_refl _) hn
  have HC := Lib.hid hcon
  clear hcon hD
  go_enter Try.func18, Try.ntmps18
  go_wp2_with (go_at_call 25; refine HC.out.mono ?_; rintro e w1 ⟨A1, c1, rfl, hrow, hb1⟩)
  obtain ⟨A2, c2, he, hc, hn2, hcell⟩ := hrow
  cases he
  have HCc := Lib.hid hcell
  have HB := Lib.hid hb1
  clear hcell hb1
  generalize hT : tms D = T at *
  have HT := Lib.hid hT
  clear hT
  go_loopw [5, 6] (fun f i wr => ∃ k q : Nat, k ≤ T.length ∧ i = .int .i64 k ∧ f = .float .f64 (gapRTo T k) ∧ wr = w1.drewN q) (fun _ i _ => T.length - (intOf i).toNat)
  case atStart => exact ⟨0, 0, Nat.zero_le _, rfl, rfl, rfl⟩
  case round =>
    obtain ⟨i, q, hi, rfl, rfl, rfl⟩ := hrel
    by_cases hlt : i < T.length
    · obtain ⟨g, rfl, hB, hg, hcs⟩ := HCc.out (by omega)
      have ha := hcs i hlt
      have H1 := Lib.hid (gapRTo_one T i hlt)
      have HS := Lib.hid hcs
      clear hcs
      have hiz : (i : Int) < (T.length : Int) := by omega
      generalize T[i]?.getD 0 = a at ha H1
      go_wp2
      go_loopw [7, 8, 9] (fun f b j wr => ∃ k q : Nat, k ≤ T.length ∧ j = .int .i64 k ∧ f = .float .f64 (nextTo T a k).1 ∧ b = .bool (nextTo T a k).2 ∧ wr = w1.drewN q) (fun _ _ j _ => T.length - (intOf j).toNat)
      case atStart => exact ⟨0, q, Nat.zero_le _, rfl, rfl, rfl, rfl⟩
      case round =>
        obtain ⟨k, q, hk, rfl, rfl, rfl, rfl⟩ := hrel
        by_cases hlt2 : k < T.length
        · have h0 := HS.out k hlt2
          have H3 := Lib.hid (nextTo_one T a k hlt2)
          generalize T[k]?.getD 0 = x at h0 H3
          generalize hp : nextTo T a k = p at H3
          clear hp
          obtain ⟨nx, is⟩ := p
          have hkz : (k : Int) < (T.length : Int) := by omega
          cases hg1 : gtF x a with
          | false =>
            have H2 := Lib.hid (show nextStep a (nx, is) x = (nx, is) by unfold nextStep; rw [hg1]; rfl)
            go_wp2
            go_quiet (fail)
            go_wp2
            go_roundw
            case rel => exact ⟨k + 1, _, by omega, by go_num, by rw [H3.out, H2.out], by rw [H3.out, H2.out], rfl⟩
            case measure => simp [intOf]; omega
          | true =>
            cases is with
            | false =>
              have H2 := Lib.hid (show nextStep a (nx, false) x = (x, true) by unfold nextStep; rw [hg1]; rfl)
              go_wp2
              go_quiet (fail)
              go_wp2
              go_roundw
              case rel => exact ⟨k + 1, _, by omega, by go_num, by rw [H3.out, H2.out], by rw [H3.out, H2.out], rfl⟩
              case measure => simp [intOf]; omega
            | true =>
              cases hl : ltF x nx with
              | false =>
                have H2 := Lib.hid (show nextStep a (nx, true) x = (nx, true) by unfold nextStep; rw [hg1, hl]; rfl)
                go_wp2
                go_quiet (fail)
                go_wp2
                go_roundw
                case rel => exact ⟨k + 1, _, by omega, by go_num, by rw [H3.out, H2.out], by rw [H3.out, H2.out], rfl⟩
                case measure => simp [intOf]; omega
              | true =>
                have H2 := Lib.hid (show nextStep a (nx, true) x = (x, true) by unfold nextStep; rw [hg1, hl]; rfl)
                go_wp2
                go_quiet (fail)
                go_wp2
                go_roundw
                case rel => exact ⟨k + 1, _, by omega, by go_num, by rw [H3.out, H2.out], by rw [H3.out, H2.out], rfl⟩
                case measure => simp [intOf]; omega
        · have : k = T.length := by omega
          subst this
          rw [nextTo_all]
          have H5 := Lib.hid (show gapRStep T (gapRTo T i) a = if (nextOf T a).2 then gapStep (gapRTo T i) a (nextOf T a).1 else gapRTo T i from rfl)
          generalize nextOf T a = p at H5 ⊢
          obtain ⟨nx, is⟩ := p
          cases is with
          | false =>
            go_wp2
            go_roundw
            case rel => exact ⟨i + 1, _, by omega, by go_num, by rw [H1.out, H5.out]; rfl, rfl⟩
            case measure => simp [intOf]; omega
          | true =>
            cases hs : Ieee.double.sub nx a with
            | none =>
              have H2 := Lib.hid (show gapStep (gapRTo T i) a nx = gapRTo T i by unfold gapStep; rw [hs])
              have hr := fun w => run_sub_nan (P := Try.prog) 23 nx a hs w
              have hl : ∀ w, (fo (nanOf w nx a) (gapRTo T i) == some .gt) = false := fun w => by rw [fo_none_l (nanOf_nan _ _ _)]; rfl
              clear hs
              go_wp2
              go_roundw
              case rel => exact ⟨i + 1, _, by omega, by go_num, by rw [H1.out, H5.out]; simp only [if_true]; rw [H2.out], rfl⟩
              case measure => simp [intOf]; omega
            | some r =>
              have hr := fun w => run_sub_num (P := Try.prog) 23 nx a r hs w
              cases hl : gtF r (gapRTo T i) with
              | false =>
                have H2 := Lib.hid (show gapStep (gapRTo T i) a nx = gapRTo T i by unfold gapStep; rw [hs]; simp only; rw [if_neg (by rw [hl]; exact Bool.false_ne_true)])
                clear hs
                go_wp2
                go_roundw
                case rel => exact ⟨i + 1, _, by omega, by go_num, by rw [H1.out, H5.out]; simp only [if_true]; rw [H2.out], rfl⟩
                case measure => simp [intOf]; omega
              | true =>
                have H2 := Lib.hid (show gapStep (gapRTo T i) a nx = r by unfold gapStep; rw [hs]; simp only; rw [if_pos hl])
                clear hs
                go_wp2
                go_roundw
                case rel => exact ⟨i + 1, _, by omega, by go_num, by rw [H1.out, H5.out]; simp only [if_true]; rw [H2.out], rfl⟩
                case measure => simp [intOf]; omega
    · have : i = T.length := by omega
      subst this
      go_wp2
      go_ret2
      exact ⟨by rw [gapRTo_all, HT.out]; rfl, below_drewN HB.out q⟩

end Go.Proofs.Ytgabaljmepgeiaa
