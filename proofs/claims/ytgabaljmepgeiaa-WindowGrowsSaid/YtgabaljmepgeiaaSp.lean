/-
  What both Spans and both Closes come to.
  No conditions but that the history is read.
-/
import Derived.Test.YtgabaljmepgeiaaGa
namespace Go.Proofs.Ytgabaljmepgeiaa
open Go.RowKit

def spanS (S : List Nat) : Nat × Nat × Bool := match S with
  | [] => (0, 0, false)
  | a :: l => (a, ((a :: l)[l.length]?.getD 0), true)

set_option maxHeartbeats 2000000 in
theorem span_any (A : Option Addr) (n c : Nat) (D : List Nat) (hDb : ∀ b ∈ D, b < 18446744073709551616) (w : World) (hD : Hst w w.heap.size A n D) (hn : n ≤ 2932031007403) :
    Calls Try.prog 19 #[.slice A n c] w fun e w' => e = .returned (.tuple #[.float .f64 (spanS (srt D)).1, .float .f64 (spanS (srt D)).2.1, .bool (spanS (srt D)).2.2]) ∧ RowKit.Below w.heap.size w w' := by
  have hcon := times_row A n c D hDb w.heap.size w w hD (RowKit.Below.refl _ _) (Nat.le_refl _) hn
  generalize hT : srt D = S at hcon
  clear hT
  have HC := Lib.hid hcon
  clear hcon hD hDb
  cases S with
  | nil =>
    go_enter Try.func19, Try.ntmps19
    go_wp2_with (go_at_call 23; refine HC.out.mono ?_; rintro e w1 ⟨A1, c1, rfl, hrow, hb1⟩)
    go_ret3
    exact ⟨rfl, hb1⟩
  | cons a l =>
    have hlz : ((l.length : Int) + 1 == 0) = false := by rw [beq_eq_false_iff_ne]; omega
    go_enter Try.func19, Try.ntmps19
    go_wp2_with (go_at_call 23; refine HC.out.mono ?_; rintro e w1 ⟨A1, c1, rfl, hrow, hb1⟩; obtain ⟨A2, c2, he, hc, hn2, hcell⟩ := hrow; cases he; have HH := Lib.hid hcell; clear hcell; simp only [List.length_cons] at hc hn2 ⊢)
    obtain ⟨g, rfl, hB, hg, hcs⟩ := HH.out (by simp)
    have ha := hcs 0 (by simp)
    have hb := hcs l.length (by simp)
    clear hcs
    simp only [List.getElem?_cons_zero, Option.getD_some] at ha
    have H1 := Lib.hid (show spanS (a :: l) = (a, ((a :: l)[l.length]?.getD 0), true) from rfl)
    generalize (a :: l)[l.length]?.getD 0 = z at hb H1
    have e1 : IntKind.i64.wrap ((l.length : Int) + 1 - 1) = (l.length : Int) := by rw [IntKind.wrap_i64]; omega
    have hz1 : (l.length : Int) < (l.length : Int) + 1 := by omega
    have hz0 : (0 : Int) < (l.length : Int) + 1 := by omega
    go_wp2
    go_quiet (fail)
    go_wp2
    go_ret3
    exact ⟨by rw [H1.out]; rfl, below_drewN hb1 _⟩

def spanStep (p : Nat × Nat) (i a : Nat) : Nat × Nat := (if i = 0 ∨ ltF a p.1 = true then a else p.1, if i = 0 ∨ gtF a p.2 = true then a else p.2)
def spanTo (T : List Nat) : Nat → Nat × Nat
  | 0 => (0, 0)
  | k + 1 => spanStep (spanTo T k) k (T[k]?.getD 0)

set_option maxHeartbeats 2000000 in
theorem spanR_any (A : Option Addr) (n c : Nat) (D : List Nat) (w : World) (hD : Hst w w.heap.size A n D) (hn : n ≤ 2932031007403) :
    Calls Try.prog 20 #[.slice A n c] w fun e w' => e = .returned (.tuple #[.float .f64 (spanTo (tms D) (tms D).length).1, .float .f64 (spanTo (tms D) (tms D).length).2, .bool (decide ((0 : Int) < ((tms D).length : Int)))]) ∧ RowKit.Below w.heap.size w w' := by
  have hcon := timesR_row A n c D w.heap.size w w hD (RowKit.Below.refl _ _) (Nat.le_refl _) hn
  have HC := Lib.hid hcon
  clear hcon hD
  go_enter Try.func20, Try.ntmps20
  go_wp2_with (go_at_call 25; refine HC.out.mono ?_; rintro e w1 ⟨A1, c1, rfl, hrow, hb1⟩)
  obtain ⟨A2, c2, he, hc, hn2, hcell⟩ := hrow
  cases he
  have HCc := Lib.hid hcell
  clear hcell
  generalize hT : tms D = T at *
  have HT := Lib.hid hT
  clear hT
  go_loop [6, 7, 8] (fun lo hi i => ∃ k : Nat, k ≤ T.length ∧ i = .int .i64 k ∧ lo = .float .f64 (spanTo T k).1 ∧ hi = .float .f64 (spanTo T k).2) (fun _ _ i => T.length - (intOf i).toNat)
  case atStart => exact ⟨0, Nat.zero_le _, rfl, rfl, rfl⟩
  case round =>
    obtain ⟨i, hi, rfl, rfl, rfl⟩ := hrel
    by_cases hlt : i < T.length
    · obtain ⟨g, rfl, hB, hg, hcs⟩ := HCc.out (by omega)
      have ha := hcs i hlt
      clear hcs
      have H1 := Lib.hid (show spanTo T (i + 1) = spanStep (spanTo T i) i (T[i]?.getD 0) from rfl)
      have hiz : (i : Int) < (T.length : Int) := by omega
      generalize T[i]?.getD 0 = a at ha H1
      generalize hp : spanTo T i = p at H1
      clear hp
      obtain ⟨lo, hi2⟩ := p
      by_cases h0 : i = 0
      · have h0z : ((i : Int) == 0) = true := by rw [beq_iff_eq]; omega
        have H2 := Lib.hid (show spanStep (lo, hi2) i a = (a, a) by unfold spanStep; rw [if_pos (.inl h0), if_pos (.inl h0)])
        clear h0
        go_wp2
        go_round
        case rel => exact ⟨i + 1, by omega, by go_num, by rw [H1.out, H2.out], by rw [H1.out, H2.out]⟩
        case measure => simp [intOf]; omega
      · have h0z : ((i : Int) == 0) = false := by rw [beq_eq_false_iff_ne]; omega
        have H2 := Lib.hid (show spanStep (lo, hi2) i a = (if ltF a lo = true then a else lo, if gtF a hi2 = true then a else hi2) by unfold spanStep; simp only [h0, false_or])
        clear h0
        cases h1 : ltF a lo <;> cases h2 : gtF a hi2
        all_goals
          have H3 := Lib.hid h1
          have H4 := Lib.hid h2
          go_wp2
          go_round
          case rel => exact ⟨i + 1, by omega, by go_num, by rw [H1.out, H2.out, H3.out, H4.out]; rfl, by rw [H1.out, H2.out, H3.out, H4.out]; rfl⟩
          case measure => simp [intOf]; omega
    · have : i = T.length := by omega
      subst this
      go_wp2
      go_ret3
      exact ⟨by rw [HT.out]; rfl, hb1⟩

/-- How many pairs are near: of those of the first k. -/
def closeTo (S : List Nat) (f : Nat → Nat → Bool) : Nat → Nat
  | 0 => 0
  | k + 1 => closeTo S f k + (S.take k).countP (f (S[k]?.getD 0))

def nearS (d b a : Nat) : Bool := dlt b a d

theorem closeTo_le (S : List Nat) (f : Nat → Nat → Bool) (k : Nat) : closeTo S f k ≤ k * k := by
  induction k with
  | zero => exact Nat.le_refl _
  | succ k ih =>
    have h : (S.take k).countP (f (S[k]?.getD 0)) ≤ k := Nat.le_trans List.countP_le_length (List.length_take_le _ _)
    show closeTo S f k + _ ≤ _
    have e : (k + 1) * (k + 1) = k * k + k + k + 1 := by rw [Nat.add_mul, Nat.mul_add]; omega
    omega

theorem close1_any (a b bd d : Nat) (w : World) (hd : w.cell? ⟨bd, 0, none⟩ = some (.float .f64 d)) :
    Calls Try.prog 32 #[.float .f64 a, .float .f64 b, .pointer (some ⟨bd, 0, none⟩)] w fun e w' => e = .returned (.bool (nearS d b a)) ∧ ∃ q, w.drewN q = w' := by
  unfold nearS dlt
  cases hs : Ieee.double.sub b a with
  | none =>
    have hr := fun w => run_sub_nan (P := Try.prog) 23 b a hs w
    have hl : ∀ w, (fo (nanOf w b a) d == some .lt) = false := fun w => by rw [fo_none_l (nanOf_nan _ _ _)]; rfl
    clear hs
    go_enter Try.func32, Try.ntmps32
    go_wp2
    go_ret
    exact ⟨rfl, 1, rfl⟩
  | some r =>
    have hr := fun w => run_sub_num (P := Try.prog) 23 b a r hs w
    clear hs
    go_enter Try.func32, Try.ntmps32
    go_wp2
    go_ret
    exact ⟨rfl, 0, rfl⟩

set_option maxHeartbeats 4000000 in
theorem close_any (A : Option Addr) (n c d : Nat) (D : List Nat) (hDb : ∀ b ∈ D, b < 18446744073709551616) (w : World) (hD : Hst w w.heap.size A n D) (hn : n ≤ 3000000000) :
    Calls Try.prog 21 #[.slice A n c, .float .f64 d] w fun e w' => e = .returned (.int .i64 (closeTo (srt D) (nearS d) (srt D).length)) ∧ RowKit.Below w.heap.size w w' := by
  have hmf : ∀ (fn : Fn) (first cap : Array Value) (w : World), (Instr.makeFunc fn first cap).run Try.prog w = .ok (.func fn first cap) w := fun _ _ _ _ => rfl
  have hcon := times_row A n c D hDb w.heap.size w (w.alloc (.cells #[.float .f64 d] 23)) hD ((RowKit.Below.refl _ _).alloc (Nat.le_refl _) _) (by simp) (by omega)
  have HC := Lib.hid hcon
  have hSn : (srt D).length ≤ 3000000000 := by have := srt_le hD.1; omega
  clear hcon hD hDb
  go_enter Try.func21, Try.ntmps21
  go_wp2_with (go_at_call 23; refine HC.out.mono ?_; rintro e w1 ⟨A1, c1, rfl, hrow, hb1⟩; have hz1 := hb1.size; simp at hz1)
  have hcw : w1.cell? ⟨w.heap.size, 0, none⟩ = some (.float .f64 d) := by
    rw [hb1.cell (by simp)]; simp
  have HB := Lib.hid (show RowKit.Below w.heap.size w w1 from ((RowKit.Below.refl _ _).alloc (Nat.le_refl _) _).trans (hb1.mono (by simp)))
  clear hb1
  obtain ⟨A2, c2, he, hc, hn2, hcell⟩ := hrow
  cases he
  have HCc := Lib.hid hcell
  clear hcell
  generalize hT : srt D = S at *
  have HT := Lib.hid hT
  clear hT
  go_loopw [7, 17] (fun s i wr => ∃ k q : Nat, k ≤ S.length ∧ i = .int .i64 k ∧ s = .int .i64 (closeTo S (nearS d) k) ∧ wr = w1.drewN q) (fun _ i _ => S.length - (intOf i).toNat)
  case atStart => exact ⟨0, 0, Nat.zero_le _, rfl, rfl, rfl⟩
  case round =>
    obtain ⟨i, q, hi, rfl, rfl, rfl⟩ := hrel
    have hcl := closeTo_le S (nearS d) i
    have hsq : i * i ≤ 9000000000000000000 := Nat.le_trans (Nat.mul_le_mul (show i ≤ 3000000000 by omega) (show i ≤ 3000000000 by omega)) (by omega)
    by_cases hlt : i < S.length
    · obtain ⟨g, rfl, hB, hg, hcs⟩ := HCc.out (by omega)
      have ha := hcs i hlt
      have H1 := Lib.hid (show closeTo S (nearS d) (i + 1) = closeTo S (nearS d) i + (S.take i).countP (nearS d (S[i]?.getD 0)) from rfl)
      have HS := Lib.hid hcs
      clear hcs
      have hiz : (i : Int) < (S.length : Int) := by omega
      have hic : (i : Int) ≤ (c1 : Int) := by omega
      generalize S[i]?.getD 0 = b at ha H1
      generalize closeTo S (nearS d) i = n0 at hcl H1
      go_wp2
      go_loopw [7, 26] (fun s j wr => ∃ k q : Nat, k ≤ i ∧ j = .int .i64 k ∧ s = .int .i64 ((n0 + (S.take k).countP (nearS d b) : Nat) : Int) ∧ wr = w1.drewN q) (fun _ j _ => i - (intOf j).toNat)
      case atStart => exact ⟨0, q, Nat.zero_le _, rfl, rfl, rfl⟩
      case round =>
        obtain ⟨k, q, hk, rfl, rfl, rfl⟩ := hrel
        have hle : (S.take k).countP (nearS d b) ≤ k := Nat.le_trans List.countP_le_length (List.length_take_le _ _)
        by_cases hlt2 : k < i
        · have h0 := HS.out k (by omega)
          have H3 := Lib.hid (show (S.take (k + 1)).countP (nearS d b) = (S.take k).countP (nearS d b) + if nearS d b (S[k]?.getD 0) then 1 else 0 by rw [take_one S k (by omega), List.countP_append, List.countP_singleton])
          generalize S[k]?.getD 0 = a at h0 H3
          generalize (S.take k).countP (nearS d b) = m at hle H3
          have hkz : (k : Int) < (i : Int) := by omega
          have H2 := Lib.hid (close1_any a b w.heap.size d (w1.drewN q) hcw)
          cases hnear : nearS d b a with
          | false =>
            rw [hnear] at H2 H3
            clear hnear
            go_wp2_with (go_at_call 32; refine H2.out.mono ?_; rintro e w' ⟨rfl, q2, rfl⟩)
            go_roundw
            case rel => exact ⟨k + 1, _, by omega, by go_num, by rw [H3.out]; rfl, rfl⟩
            case measure => simp [intOf]; omega
          | true =>
            rw [hnear] at H2 H3
            clear hnear
            go_wp2_with (go_at_call 32; refine H2.out.mono ?_; rintro e w' ⟨rfl, q2, rfl⟩)
            go_roundw
            case rel => exact ⟨k + 1, _, by omega, by go_num, by rw [H3.out]; simp only [if_true]; go_num, rfl⟩
            case measure => simp [intOf]; omega
        · have : k = i := by omega
          subst this
          go_wp2
          go_roundw
          case rel => exact ⟨k + 1, _, by omega, by go_num, by rw [H1.out], rfl⟩
          case measure => simp [intOf]; omega
    · have : i = S.length := by omega
      subst this
      go_wp2
      go_ret
      exact ⟨by rw [HT.out]; rfl, below_drewN HB.out q⟩

end Go.Proofs.Ytgabaljmepgeiaa
