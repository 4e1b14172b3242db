/-
  What must come at any rate: 'awake' answers true. And 'few': no more than sixty.
  No conditions.
-/
import Derived.Test.YtgabaljmepgeiaaPc
namespace Go.Proofs.Ytgabaljmepgeiaa
open Go.RowKit

set_option maxHeartbeats 1000000 in
/-- The same numbers: true. -/
theorem ints_same (A B : Option Addr) (n c d : Nat) (L : List Nat) (hn : n ≤ 2932031007403) (w : World) (ha : RowI w A n L) (hb : RowI w B n L) :
    Calls Try.prog 16 #[.slice A n c, .slice B n d] w fun e w' => e = .returned (.bool true) ∧ ∃ q, w' = w.drewN q := by
  have HA := Lib.hid ha
  have HB := Lib.hid hb
  clear ha hb
  have hne : ((n : Int) != (n : Int)) = false := by simp
  go_enter Try.func16, Try.ntmps16
  go_wp2
  go_loopw [5] (fun i wr => ∃ k q : Nat, k ≤ n ∧ i = .int .i64 k ∧ wr = w.drewN q) (fun i _ => n - (intOf i).toNat)
  case atStart => exact ⟨0, 0, Nat.zero_le _, rfl, rfl⟩
  case round =>
    obtain ⟨k, q, hk, rfl, rfl⟩ := hrel
    by_cases hlt : k < n
    · obtain ⟨g, rfl, hg, hcs⟩ := HA.out.2 (by omega)
      obtain ⟨g2, rfl, hg2, hcs2⟩ := HB.out.2 (by omega)
      have h0 := hcs k hlt
      have h1 := hcs2 k hlt
      clear hcs hcs2
      generalize L[k]?.getD 0 = x at h0 h1
      have hx : ((x : Int) != (x : Int)) = false := by simp
      have hkz : (k : Int) < (n : Int) := by omega
      go_wp2
      go_quiet (fail)
      go_wp2
      go_roundw
      case rel => exact ⟨k + 1, _, by omega, by go_num, rfl⟩
      case measure => simp [intOf]; omega
    · have : k = n := by omega
      subst this
      go_wp2
      go_ret
      exact ⟨rfl, q, rfl⟩

/-- The first sixty. -/
theorem few_any (A : Option Addr) (n c : Nat) (hn : n ≤ c) (_hn2 : n ≤ 9223372036854775807) (w : World) : Calls Try.prog 9 #[.slice A n c] w fun e w' => ∃ c', e = .returned (.slice A (min n 60) c') ∧ min n 60 ≤ c' ∧ w = w' := by
  by_cases h : 60 < n
  · rw [show min n 60 = 60 by omega]
    have hz : (60 : Int) < (n : Int) := by omega
    have hz2 : (60 : Int) ≤ (c : Int) := by omega
    go_enter Try.func9, Try.ntmps9
    go_wp2
    go_ret
    exact ⟨c, rfl, by omega, rfl⟩
  · rw [show min n 60 = n by omega]
    have hz : ¬ (60 : Int) < (n : Int) := by omega
    go_enter Try.func9, Try.ntmps9
    go_wp2
    go_ret
    exact ⟨c, rfl, hn, rfl⟩

theorem Hst.take {w : World} {B : Nat} {A : Option Addr} {n : Nat} {D : List Nat} (h : Hst w B A n D) (k : Nat) (hk : k ≤ n) : Hst w B A k (D.take k) :=
  ⟨by rw [List.length_take, h.1]; omega, fun hp => by
    obtain ⟨b, off, e, hb, hc⟩ := h.2 (by omega)
    refine ⟨b, off, e, hb, fun i hi => ?_⟩
    have := hc i (by omega)
    rwa [List.getElem?_take_of_lt hi]⟩

attribute [local go_sem] run_store_float

theorem at_any (t : Nat) (w : World) : Calls Try.prog 26 #[.float .f64 t] w fun e w' => e = .returned (.agg #[.float .f64 t, .int .i64 0, .int .i64 0, .int .i64 0, .int .i64 0, .int .i64 0]) ∧ RowKit.Below w.heap.size w w' := by
  go_enter Try.func26, Try.ntmps26
  go_wp2
  refine bodyPost_ret (v := .agg #[.float .f64 t, .int .i64 0, .int .i64 0, .int .i64 0, .int .i64 0, .int .i64 0]) (by simp [results, Try.results26, go_sem]) rfl ⟨rfl, (RowKit.Below.refl _ _).alloc (Nat.le_refl _) _⟩

/-- The history of 'awake'. -/
def aD : List Nat := [4613937818241073152, 4607182418800017408, 4609434218613702656, 9221120237041090561]
def aS : List Nat := [4607182418800017408, 4609434218613702656, 4613937818241073152]

theorem aD_tms : tms aD = [4613937818241073152, 4607182418800017408, 4609434218613702656] := by kernel_rfl
theorem aD_b : ∀ b ∈ aD, b < 18446744073709551616 := by decide +kernel
theorem aD_srt : srt aD = aS := (srt_unique aD_b (by rw [aD_tms]; decide +kernel) (by decide +kernel)).symm
theorem aM : mostS aS 4607182418800017408 = (2, 4607182418800017408) := by kernel_rfl
theorem aP : partsL aS 4607182418800017408 4607182418800017408 3 = ([2, 0, 1], 0) := by kernel_rfl
theorem aG : gapS aS = 4609434218613702656 := by kernel_rfl

set_option maxHeartbeats 2000000 in
theorem awake_any (w : World) : Calls Try.prog 12 #[] w fun e w' => e = .returned (.bool true) ∧ RowKit.Below w.heap.size w w' := by
  have q1 : (fo 4607182418800017408 4607182418800017408 == some .eq) = true := by decide +kernel
  have q2 : (fo 4609434218613702656 4609434218613702656 == some .eq) = true := by decide +kernel
  go_enter Try.func12, Try.ntmps12
  go_wp2_with fail
  refine (at_any _ _).mono ?_
  rintro e w1 ⟨rfl, b1⟩
  go_wp2_with fail
  refine (at_any _ _).mono ?_
  rintro e w2 ⟨rfl, b2⟩
  go_wp2_with fail
  refine (at_any _ _).mono ?_
  rintro e w3 ⟨rfl, b3⟩
  go_wp2_with fail
  refine (nan_any _).mono ?_
  rintro e w4 ⟨rfl, rfl⟩
  go_wp2_with fail
  refine (at_any _ _).mono ?_
  rintro e w5 ⟨rfl, b5⟩
  have hb : RowKit.Below w.heap.size w w5 := ((b1.trans (b2.mono b1.size)).trans (b3.mono (by have := b1.size; have := b2.size; omega))).trans (b5.mono (by have := b1.size; have := b2.size; have := b3.size; omega))
  clear b1 b2 b3 b5
  go_wp2_with fail
  have hH : Hst (w5.alloc (.cells #[.float .f64 4613937818241073152, .int .i64 0, .int .i64 0, .int .i64 0, .int .i64 0, .int .i64 0, .float .f64 4607182418800017408, .int .i64 0, .int .i64 0, .int .i64 0, .int .i64 0, .int .i64 0,
      .float .f64 4609434218613702656, .int .i64 0, .int .i64 0, .int .i64 0, .int .i64 0, .int .i64 0, .float .f64 9221120237041090561, .int .i64 0, .int .i64 0, .int .i64 0, .int .i64 0, .int .i64 0] 46)) (w5.heap.size + 1) (some ⟨w5.heap.size, 0, none⟩) 4 aD := by
    refine ⟨rfl, fun _ => ⟨_, 0, rfl, by omega, fun i hi => ⟨0, 0, 0, 0, 0, ?_⟩⟩⟩
    have hb := heap_alloc_new w5 (.cells #[.float .f64 4613937818241073152, .int .i64 0, .int .i64 0, .int .i64 0, .int .i64 0, .int .i64 0, .float .f64 4607182418800017408, .int .i64 0, .int .i64 0, .int .i64 0, .int .i64 0, .int .i64 0,
      .float .f64 4609434218613702656, .int .i64 0, .int .i64 0, .int .i64 0, .int .i64 0, .int .i64 0, .float .f64 9221120237041090561, .int .i64 0, .int .i64 0, .int .i64 0, .int .i64 0, .int .i64 0] 46)
    have hc : ∀ j, _ := fun j => cell_of_row _ w5.heap.size j _ 46 (0, 0) hb
    simp only [hc, Nat.zero_add]
    match i, hi with
    | 0, _ => exact ⟨rfl, rfl, rfl, rfl, rfl, rfl⟩
    | 1, _ => exact ⟨rfl, rfl, rfl, rfl, rfl, rfl⟩
    | 2, _ => exact ⟨rfl, rfl, rfl, rfl, rfl, rfl⟩
    | 3, _ => exact ⟨rfl, rfl, rfl, rfl, rfl, rfl⟩
  have hb0 := hb.alloc hb.size (.cells #[.float .f64 4613937818241073152, .int .i64 0, .int .i64 0, .int .i64 0, .int .i64 0, .int .i64 0, .float .f64 4607182418800017408, .int .i64 0, .int .i64 0, .int .i64 0, .int .i64 0, .int .i64 0,
      .float .f64 4609434218613702656, .int .i64 0, .int .i64 0, .int .i64 0, .int .i64 0, .int .i64 0, .float .f64 9221120237041090561, .int .i64 0, .int .i64 0, .int .i64 0, .int .i64 0, .int .i64 0] 46)
  have hsz : (w5.alloc (.cells #[.float .f64 4613937818241073152, .int .i64 0, .int .i64 0, .int .i64 0, .int .i64 0, .int .i64 0, .float .f64 4607182418800017408, .int .i64 0, .int .i64 0, .int .i64 0, .int .i64 0, .int .i64 0,
      .float .f64 4609434218613702656, .int .i64 0, .int .i64 0, .int .i64 0, .int .i64 0, .int .i64 0, .float .f64 9221120237041090561, .int .i64 0, .int .i64 0, .int .i64 0, .int .i64 0, .int .i64 0] 46)).heap.size = w5.heap.size + 1 := by simp
  rw [← hsz] at hH
  clear hb hsz
  generalize (w5.alloc (.cells #[.float .f64 4613937818241073152, .int .i64 0, .int .i64 0, .int .i64 0, .int .i64 0, .int .i64 0, .float .f64 4607182418800017408, .int .i64 0, .int .i64 0, .int .i64 0, .int .i64 0, .int .i64 0,
      .float .f64 4609434218613702656, .int .i64 0, .int .i64 0, .int .i64 0, .int .i64 0, .int .i64 0, .float .f64 9221120237041090561, .int .i64 0, .int .i64 0, .int .i64 0, .int .i64 0, .int .i64 0] 46)) = W at hH hb0 ⊢
  have hM := most_any (some ⟨w5.heap.size, 0, none⟩) 4 4 4607182418800017408 aD aD_b W hH (by omega)
  rw [aD_srt, aM] at hM
  refine hM.mono ?_
  rintro e w6 ⟨rfl, b6⟩
  clear hM
  have hP := parts_any (some ⟨w5.heap.size, 0, none⟩) 4 4 4607182418800017408 4607182418800017408 3 aD aD_b (by omega) (by omega) w6 ((hH.later b6).more b6.size) (by omega)
  rw [aD_srt, aP] at hP
  go_wp2_with fail
  refine hP.mono ?_
  rintro e w7 ⟨A7, c7, rfl, hr7, b7⟩
  clear hP
  have b67 := b6.trans (b7.mono b6.size)
  have hG := gap_any (some ⟨w5.heap.size, 0, none⟩) 4 4 aD aD_b w7 ((hH.later b67).more b67.size) (by omega)
  rw [aD_srt, aG] at hG
  go_wp2_with fail
  refine hG.mono ?_
  rintro e w8 ⟨rfl, b8⟩
  clear hG
  have hd1 : (decide ((1 : Int) < ((aS.length : Nat) : Int))) = true := by decide
  rw [hd1]
  have hr8 := hr7.later b8
  have hbA := hb0.trans ((b67.trans (b8.mono b67.size)).mono hb0.size)
  clear b6 b7 b67 b8 hr7 hb0 hH hd1
  go_wp2_with fail
  have hl : RowI (w8.alloc (.cells #[.int .i64 2, .int .i64 0, .int .i64 1] 3)) (some ⟨w8.heap.size, 0, none⟩) 3 [2, 0, 1] := by
    refine ⟨rfl, fun _ => ⟨_, rfl, by simp, fun i hi => ?_⟩⟩
    have hb := heap_alloc_new w8 (.cells #[.int .i64 2, .int .i64 0, .int .i64 1] 3)
    rw [cell_of_row _ w8.heap.size i _ 3 (0, 0) hb]
    match i, hi with
    | 0, _ => rfl
    | 1, _ => rfl
    | 2, _ => rfl
  have hbB := hbA.alloc hbA.size (.cells #[.int .i64 2, .int .i64 0, .int .i64 1] 3)
  refine (ints_same A7 _ 3 c7 3 [2, 0, 1] (by omega) _ (hr8.later ((RowKit.Below.refl _ _).alloc (Nat.le_refl _) _)) hl).mono ?_
  rintro e w9 ⟨rfl, q, rfl⟩
  clear hl hr8 hbA
  go_wp2
  go_ret
  exact ⟨rfl, below_drewN hbB q⟩

end Go.Proofs.Ytgabaljmepgeiaa
