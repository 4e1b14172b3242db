/-
  What the reference's Close comes to.
  No conditions but that the history is read, its times words of 64 bits.
-/
import Derived.Test.YtgabaljmepgeiaaSp
namespace Go.Proofs.Ytgabaljmepgeiaa
open Go.RowKit

def mxF (x y : Nat) : Nat := if rk x < rk y then y else x
def mnF (x y : Nat) : Nat := if rk y < rk x then y else x

theorem run_max_nm {P : Program} (ts : Array TypeId) (t : TypeId) {x y : Nat} (hx : Nm x) (hy : Nm y) (w : World) :
    (Builtin.max_ ts t #[.float .f64 x, .float .f64 y]).run P w = .ok (.float .f64 (mxF x y)) w := by
  have ho := fo_rk hx.1 hy.1
  unfold fo at ho
  rw [cmp_int] at ho
  unfold mxF
  by_cases h : rk x < rk y
  · rw [if_pos h] at ho ⊢
    simp [Builtin.max_, Builtin.max2, ho]
  · rw [if_neg h] at ho ⊢
    by_cases h2 : rk x = rk y
    · have e := rk_inj hx hy h2
      rw [if_pos h2] at ho
      subst e
      simp [Builtin.max_, Builtin.max2, ho]
    · rw [if_neg h2] at ho
      simp [Builtin.max_, Builtin.max2, ho]

theorem run_min_nm {P : Program} (ts : Array TypeId) (t : TypeId) {x y : Nat} (hx : Nm x) (hy : Nm y) (w : World) :
    (Builtin.min_ ts t #[.float .f64 x, .float .f64 y]).run P w = .ok (.float .f64 (mnF x y)) w := by
  have ho := fo_rk hx.1 hy.1
  unfold fo at ho
  rw [cmp_int] at ho
  unfold mnF
  by_cases h : rk x < rk y
  · rw [if_pos h] at ho
    rw [if_neg (by omega)]
    simp [Builtin.min_, Builtin.min2, ho]
  · rw [if_neg h] at ho
    by_cases h2 : rk x = rk y
    · have e := rk_inj hx hy h2
      rw [if_pos h2] at ho
      subst e
      simp [Builtin.min_, Builtin.min2, ho]
    · rw [if_neg h2] at ho
      rw [if_pos (by omega)]
      simp [Builtin.min_, Builtin.min2, ho]

/-- Are two times near, whichever is the greater? -/
def nearR (d x y : Nat) : Bool := dlt (mxF x y) (mnF x y) d

theorem getD_mem {l : List Nat} {i : Nat} (h : i < l.length) : l[i]?.getD 0 ∈ l := by
  rw [List.getElem?_eq_getElem h]; exact List.getElem_mem h

set_option maxHeartbeats 4000000 in
theorem closeR_any (A : Option Addr) (n c d : Nat) (D : List Nat) (hDb : ∀ b ∈ D, b < 18446744073709551616) (w : World) (hD : Hst w w.heap.size A n D) (hn : n ≤ 3000000000) :
    Calls Try.prog 22 #[.slice A n c, .float .f64 d] w fun e w' => e = .returned (.int .i64 (closeTo (tms D) (nearR d) (tms D).length)) ∧ RowKit.Below w.heap.size w w' := by
  have hcon := timesR_row A n c D w.heap.size w w hD (RowKit.Below.refl _ _) (Nat.le_refl _) (by omega)
  have HC := Lib.hid hcon
  have hSn : (tms D).length ≤ 3000000000 := by have h1 := List.length_filterMap_le nrm D; have h2 := hD.1; unfold tms; omega
  have HN := Lib.hid (tms_nm hDb)
  clear hcon hD hDb
  go_enter Try.func22, Try.ntmps22
  go_wp2_with (go_at_call 25; refine HC.out.mono ?_; rintro e w1 ⟨A1, c1, rfl, hrow, hb1⟩)
  have HB := Lib.hid hb1
  clear hb1
  obtain ⟨A2, c2, he, hc, hn2, hcell⟩ := hrow
  cases he
  have HCc := Lib.hid hcell
  clear hcell
  generalize hT : tms D = S at *
  have HT := Lib.hid hT
  clear hT
  go_loopw [6, 7] (fun s i wr => ∃ k q : Nat, k ≤ S.length ∧ i = .int .i64 k ∧ s = .int .i64 (closeTo S (nearR d) k) ∧ wr = w1.drewN q) (fun _ i _ => S.length - (intOf i).toNat)
  case atStart => exact ⟨0, 0, Nat.zero_le _, rfl, rfl, rfl⟩
  case round =>
    obtain ⟨i, q, hi, rfl, rfl, rfl⟩ := hrel
    have hcl := closeTo_le S (nearR d) i
    have hsq : i * i ≤ 9000000000000000000 := Nat.le_trans (Nat.mul_le_mul (show i ≤ 3000000000 by omega) (show i ≤ 3000000000 by omega)) (by omega)
    by_cases hlt : i < S.length
    · obtain ⟨g, rfl, hB, hg, hcs⟩ := HCc.out (by omega)
      have ha := hcs i hlt
      have H1 := Lib.hid (show closeTo S (nearR d) (i + 1) = closeTo S (nearR d) i + (S.take i).countP (nearR d (S[i]?.getD 0)) from rfl)
      have HS := Lib.hid hcs
      have HN1 := Lib.hid (HN.out _ (getD_mem hlt))
      clear hcs
      have hiz : (i : Int) < (S.length : Int) := by omega
      generalize S[i]?.getD 0 = b at ha H1 HN1
      generalize closeTo S (nearR d) i = n0 at hcl H1
      go_wp2
      go_loopw [6, 8] (fun s j wr => ∃ k q : Nat, k ≤ i ∧ j = .int .i64 k ∧ s = .int .i64 ((n0 + (S.take k).countP (nearR d b) : Nat) : Int) ∧ wr = w1.drewN q) (fun _ j _ => i - (intOf j).toNat)
      case atStart => exact ⟨0, q, Nat.zero_le _, rfl, rfl, rfl⟩
      case round =>
        obtain ⟨k, q, hk, rfl, rfl, rfl⟩ := hrel
        have hle : (S.take k).countP (nearR d b) ≤ k := Nat.le_trans List.countP_le_length (List.length_take_le _ _)
        by_cases hlt2 : k < i
        · have h0 := HS.out k (by omega)
          have H3 := Lib.hid (show (S.take (k + 1)).countP (nearR d b) = (S.take k).countP (nearR d b) + if nearR d b (S[k]?.getD 0) then 1 else 0 by rw [take_one S k (by omega), List.countP_append, List.countP_singleton])
          have HN2 := Lib.hid (HN.out _ (getD_mem (show k < S.length by omega)))
          generalize S[k]?.getD 0 = a at h0 H3 HN2
          generalize (S.take k).countP (nearR d b) = m at hle H3
          have hkz : (k : Int) < (i : Int) := by omega
          have hks : (k : Int) < (S.length : Int) := by omega
          have hmx := fun ts t w => run_max_nm (P := Try.prog) ts t HN1.out HN2.out w
          have hmn := fun ts t w => run_min_nm (P := Try.prog) ts t HN1.out HN2.out w
          have H4 := Lib.hid (show nearR d b a = dlt (mxF b a) (mnF b a) d from rfl)
          generalize mxF b a = mx at hmx H4
          generalize mnF b a = mn at hmn H4
          rw [H4.out] at H3
          clear H4
          unfold dlt at H3
          cases hs : Ieee.double.sub mx mn with
          | none =>
            rw [hs] at H3
            have hr := fun w => run_sub_nan (P := Try.prog) 23 mx mn hs w
            have hl : ∀ w, (fo (nanOf w mx mn) d == some .lt) = false := fun w => by rw [fo_none_l (nanOf_nan _ _ _)]; rfl
            clear hs
            go_wp2
            go_region
            go_wp2
            go_roundw
            case rel => exact ⟨k + 1, _, by omega, by go_num, by rw [H3.out]; rfl, rfl⟩
            case measure => simp [intOf]; omega
          | some r =>
            rw [hs] at H3
            have hr := fun w => run_sub_num (P := Try.prog) 23 mx mn r hs w
            cases hl : (fo r d == some .lt) with
            | false =>
              have H5 := Lib.hid (show (S.take (k + 1)).countP (nearR d b) = m by rw [H3.out]; simp only [hl]; rfl)
              clear hs H3
              go_wp2
              go_quiet (fail)
              go_wp2
              go_roundw
              case rel => exact ⟨k + 1, _, by omega, by go_num, by rw [H5.out], rfl⟩
              case measure => simp [intOf]; omega
            | true =>
              have H5 := Lib.hid (show (S.take (k + 1)).countP (nearR d b) = m + 1 by rw [H3.out]; simp only [hl]; rfl)
              clear hs H3
              go_wp2
              go_quiet (fail)
              go_wp2
              go_roundw
              case rel => exact ⟨k + 1, _, by omega, by go_num, by rw [H5.out]; go_num, rfl⟩
              case measure => simp [intOf]; omega
        · have : k = i := by omega
          subst this
          go_wp2
          go_roundw
          case rel => exact ⟨k + 1, _, by omega, by go_num, by rw [H1.out], rfl⟩
          case measure => simp [intOf]; omega
    · have : i = S.length := by omega
      subst this
      go_wp2
      go_ret
      exact ⟨by rw [HT.out]; rfl, below_drewN HB.out q⟩

end Go.Proofs.Ytgabaljmepgeiaa
