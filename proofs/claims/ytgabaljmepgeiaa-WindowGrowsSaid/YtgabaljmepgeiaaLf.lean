/-
  What the small functions come to: NaN tests, the kept form of a time, the comparison of two times.
  No conditions: every float.
-/
import Derived.Test.YtgabaljmepgeiaaRows
import Derived.Test.YtgabaljmepgeiaaFl
import Derived.WalkKit
import Derived.WalkSpells
import Derived.WalkLawsBesides
import Derived.Lib.Hide
namespace Go.Proofs.Ytgabaljmepgeiaa
open Go.RowKit

/-- 'x < y' on floats, and its kin. -/
abbrev fo (x y : Nat) : Option Ordering := FloatKind.f64.format.order x y

theorem isnan_any (b : Nat) (w : World) : Calls Try.prog 38 #[.float .f64 b] w fun e w' => e = .returned (.bool (fo b b != some .eq)) ∧ w = w' := by
  go_enter Try.func38, Try.ntmps38
  go_wp2
  go_ret
  exact ⟨rfl, rfl⟩

theorem number2_any (b : Nat) (w : World) : Calls Try.prog 43 #[.float .f64 b] w fun e w' => e = .returned (.bool (fo b b == some .eq)) ∧ w = w' := by
  go_enter Try.func43, Try.ntmps43
  go_wp2
  go_ret
  exact ⟨rfl, rfl⟩


theorem run_frombits (n : Int) (w : World) : (callFunc 37 #[.int .u64 n]).run Try.prog w = .ok (.value (.float .f64 n.toNat)) w := by
  rw [run_callFunc_extern (e := Extern.MathFloatBits.float64frombits) Try.func37 (by kernel_rfl) rfl (by kernel_rfl) (by kernel_rfl)]; rfl
theorem run_bits (n : Nat) (w : World) : (callFunc 28 #[.float .f64 n]).run Try.prog w = .ok (.value (.int .u64 n)) w := by
  rw [run_callFunc_extern (e := Extern.MathFloatBits.float64bits) Try.func28 (by kernel_rfl) rfl (by kernel_rfl) (by kernel_rfl)]; rfl
attribute [local go_sem] run_frombits run_bits

/-- The kept form of a time: none, if it is no number. -/
def nrm (b : Nat) : Option Nat := if fo b b == some .eq then (if fo b 0 == some .eq then some 0 else some b) else none

/-- What Norm answers. -/
def nrmV (b : Nat) : Value := match nrm b with
  | some r => .tuple #[.float .f64 r, .int .i64 0]
  | none => .tuple #[.float .f64 0, .int .i64 7]

theorem norm_any (b : Nat) (w : World) : Calls Try.prog 33 #[.float .f64 b] w fun e w' => e = .returned (nrmV b) ∧ w = w' := by
  by_cases h1 : (fo b b == some .eq) = true
  · have h1' : (fo b b != some .eq) = false := by simp [bne, h1]
    by_cases h2 : (fo b 0 == some .eq) = true
    · have e : nrmV b = .tuple #[.float .f64 0, .int .i64 0] := by simp [nrmV, nrm, h1, h2]
      rw [e]
      go_enter Try.func33, Try.ntmps33
      go_wp2_with (go_at_call 38; refine (isnan_any _ _).mono ?_; rintro e w' ⟨rfl, rfl⟩)
      go_ret2
      exact ⟨rfl, rfl⟩
    · have h2 : (fo b 0 == some .eq) = false := by simpa using h2
      have e : nrmV b = .tuple #[.float .f64 b, .int .i64 0] := by simp [nrmV, nrm, h1, h2]
      rw [e]
      go_enter Try.func33, Try.ntmps33
      go_wp2_with (go_at_call 38; refine (isnan_any _ _).mono ?_; rintro e w' ⟨rfl, rfl⟩)
      go_ret2
      exact ⟨rfl, rfl⟩
  · have h1 : (fo b b == some .eq) = false := by simpa using h1
    have h1' : (fo b b != some .eq) = true := by simp [bne, h1]
    have e : nrmV b = .tuple #[.float .f64 0, .int .i64 7] := by simp [nrmV, nrm, h1]
    rw [e]
    go_enter Try.func33, Try.ntmps33
    go_wp2_with (go_at_call 38; refine (isnan_any _ _).mono ?_; rintro e w' ⟨rfl, rfl⟩)
    go_ret2
    exact ⟨rfl, rfl⟩

theorem norm2_any (b : Nat) (w : World) : Calls Try.prog 36 #[.float .f64 b] w fun e w' => e = .returned (nrmV b) ∧ w = w' := by
  by_cases h1 : (fo b b == some .eq) = true
  · by_cases h2 : (fo b 0 == some .eq) = true
    · have e : nrmV b = .tuple #[.float .f64 0, .int .i64 0] := by simp [nrmV, nrm, h1, h2]
      rw [e]
      go_enter Try.func36, Try.ntmps36
      go_wp2_with (go_at_call 43; refine (number2_any _ _).mono ?_; rintro e w' ⟨rfl, rfl⟩)
      go_ret2
      exact ⟨rfl, rfl⟩
    · have h2 : (fo b 0 == some .eq) = false := by simpa using h2
      have e : nrmV b = .tuple #[.float .f64 b, .int .i64 0] := by simp [nrmV, nrm, h1, h2]
      rw [e]
      go_enter Try.func36, Try.ntmps36
      go_wp2_with (go_at_call 43; refine (number2_any _ _).mono ?_; rintro e w' ⟨rfl, rfl⟩)
      go_ret2
      exact ⟨rfl, rfl⟩
  · have h1 : (fo b b == some .eq) = false := by simpa using h1
    have e : nrmV b = .tuple #[.float .f64 0, .int .i64 7] := by simp [nrmV, nrm, h1]
    rw [e]
    go_enter Try.func36, Try.ntmps36
    go_wp2_with (go_at_call 43; refine (number2_any _ _).mono ?_; rintro e w' ⟨rfl, rfl⟩)
    go_ret2
    exact ⟨rfl, rfl⟩

/-- What compare answers of two numbers. -/
def cmpC (a b : Nat) : Int := if fo a b == some .lt then -1 else if fo a b == some .gt then 1 else 0
/-- What stamp.Times answers: below 0, 0, above 0. -/
def tmC (a b : Nat) : Int :=
  if (fo a a != some .eq) && (fo b b != some .eq) then 0 else if fo a a != some .eq then 1 else if fo b b != some .eq then -1
  else cmpC a b

theorem compare_any (a b : Nat) (w : World) : Calls Try.prog 42 #[.float .f64 a, .float .f64 b] w fun e w' => e = .returned (.int .i64 (cmpC a b)) ∧ w = w' := by
  unfold cmpC
  by_cases h1 : (fo a b == some .lt) = true
  · simp only [h1, if_true]
    go_enter Try.func42, Try.ntmps42
    go_wp2
    go_ret
    exact ⟨rfl, rfl⟩
  · have h1 : (fo a b == some .lt) = false := by simpa using h1
    by_cases h2 : (fo a b == some .gt) = true
    · simp only [h1, h2, if_true, if_false, Bool.false_eq_true]
      go_enter Try.func42, Try.ntmps42
      go_wp2
      go_ret
      exact ⟨rfl, rfl⟩
    · have h2 : (fo a b == some .gt) = false := by simpa using h2
      simp only [h1, h2, if_false, Bool.false_eq_true]
      go_enter Try.func42, Try.ntmps42
      go_wp2
      go_ret
      exact ⟨rfl, rfl⟩

theorem times_any (a b : Nat) (w : World) : Calls Try.prog 35 #[.float .f64 a, .float .f64 b] w fun e w' => e = .returned (.int .i64 (tmC a b)) ∧ w = w' := by
  unfold tmC
  cases h1 : (fo a a != some .eq) <;> cases h2 : (fo b b != some .eq)
  · simp only [Bool.and_false, if_false, Bool.false_eq_true]
    go_enter Try.func35, Try.ntmps35
    go_wp2_with (first | (go_at_call 38; refine (isnan_any _ _).mono ?_; rintro e w' ⟨rfl, rfl⟩) | (go_at_call 42; refine (compare_any _ _ _).mono ?_; rintro e w' ⟨rfl, rfl⟩))
    go_ret
    exact ⟨rfl, rfl⟩
  · simp only [Bool.and_true, if_true, if_false, Bool.false_eq_true]
    go_enter Try.func35, Try.ntmps35
    go_wp2_with (first | (go_at_call 38; refine (isnan_any _ _).mono ?_; rintro e w' ⟨rfl, rfl⟩) | (go_at_call 42; refine (compare_any _ _ _).mono ?_; rintro e w' ⟨rfl, rfl⟩))
    go_ret
    exact ⟨rfl, rfl⟩
  · simp only [Bool.and_false, if_true, if_false, Bool.false_eq_true]
    go_enter Try.func35, Try.ntmps35
    go_wp2_with (first | (go_at_call 38; refine (isnan_any _ _).mono ?_; rintro e w' ⟨rfl, rfl⟩) | (go_at_call 42; refine (compare_any _ _ _).mono ?_; rintro e w' ⟨rfl, rfl⟩))
    go_ret
    exact ⟨rfl, rfl⟩
  · simp only [Bool.and_true, if_true]
    go_enter Try.func35, Try.ntmps35
    go_wp2_with (first | (go_at_call 38; refine (isnan_any _ _).mono ?_; rintro e w' ⟨rfl, rfl⟩) | (go_at_call 42; refine (compare_any _ _ _).mono ?_; rintro e w' ⟨rfl, rfl⟩))
    go_ret
    exact ⟨rfl, rfl⟩


/-- The same float? -/
def sameF (a b : Nat) : Bool := if (fo a a != some .eq) || (fo b b != some .eq) then (fo a a != some .eq) && (fo b b != some .eq) else (a : Int) == (b : Int)

theorem float_any (a b : Nat) (w : World) : Calls Try.prog 13 #[.float .f64 a, .float .f64 b] w fun e w' => e = .returned (.bool (sameF a b)) ∧ w = w' := by
  unfold sameF
  cases h1 : (fo a a != some .eq) <;> cases h2 : (fo b b != some .eq)
  all_goals
    simp only [Bool.and_true, Bool.and_false, Bool.or_true, Bool.or_false, if_true, if_false, Bool.false_eq_true]
    go_enter Try.func13, Try.ntmps13
    go_wp2
    go_ret
  all_goals exact ⟨rfl, rfl⟩

theorem nan_any (w : World) : Calls Try.prog 27 #[] w fun e w' => e = .returned (.float .f64 9221120237041090561) ∧ w = w' := by
  go_enter Try.func27, Try.ntmps27
  go_wp2
  go_ret
  exact ⟨rfl, rfl⟩

theorem andnot_top (a : Nat) (ha : a < 18446744073709551616) : (bits BinOp.andNot IntKind.u64 (a : Int) 9223372036854775808).toNat = rung a := by
  have h := u64_andNot_nat a 9223372036854775808 ha (by omega)
  rw [show ((9223372036854775808 : Nat) : Int) = 9223372036854775808 from rfl] at h
  rw [h, Int.toNat_natCast]
  exact Nat.and_two_pow_sub_one_eq_mod a 63

theorem abs_any (a : Nat) (w : World) (ha : a < 18446744073709551616) : Calls Try.prog 44 #[.float .f64 a] w fun e w' => e = .returned (.float .f64 (rung a)) ∧ w = w' := by
  go_enter Try.func44, Try.ntmps44
  go_wp2
  go_ret
  exact ⟨by rw [← andnot_top a ha]; rfl, rfl⟩

/-- Not finite: no number, or an infinity. -/
theorem isinf_any (a : Nat) (w : World) (ha : a < 18446744073709551616) : Calls Try.prog 39 #[.float .f64 a, .int .i64 0] w fun e w' => e = .returned (.bool (fo (rung a) 9218868437227405311 == some .gt)) ∧ w = w' := by
  go_enter Try.func39, Try.ntmps39
  go_wp2_with (go_at_call 44; refine (abs_any _ _ ha).mono ?_; rintro e w' ⟨rfl, rfl⟩)
  go_ret
  exact ⟨rfl, rfl⟩

/-- Is it a number, and no infinity? -/
def finB (a : Nat) : Bool := decide (rung a < 9218868437227405312)

theorem fo_self (a : Nat) : (fo a a == some .eq) = isNum a := by
  unfold fo
  cases h : isNum a
  · rw [show FloatKind.f64.format = Ieee.double from rfl, order_nan_left h]; rfl
  · rw [show FloatKind.f64.format = Ieee.double from rfl, order_rk h h, cmp_int]; simp

theorem fo_self_ne (a : Nat) : (fo a a != some .eq) = !isNum a := by rw [← fo_self]; rfl

theorem inf_fin (a : Nat) (h : isNum a = true) : (fo (rung a) 9218868437227405311 == some .gt) = !finB a := by
  have h' : rung a ≤ 9218868437227405312 := by simpa [isNum] using h
  have hr : rung (rung a) = rung a := by unfold rung; omega
  have hs : sgn (rung a) = false := by unfold sgn rung; simp
  have hk : rk (rung a) = rung a := by unfold rk; rw [hs, hr]; rfl
  unfold fo
  rw [show FloatKind.f64.format = Ieee.double from rfl, order_rk (by simp [isNum, hr, h']) (by decide), hk, cmp_int, show rk 9218868437227405311 = 9218868437227405311 from rfl]
  unfold finB
  by_cases hf : rung a < 9218868437227405312
  · by_cases e : (rung a : Int) < 9218868437227405311
    · rw [if_pos e]; simp [hf]
    · rw [if_neg e, if_pos (by omega)]; simp [hf]
  · rw [if_neg (by omega), if_neg (by omega)]; simp [hf]

theorem finite_any (a : Nat) (w : World) (ha : a < 18446744073709551616) : Calls Try.prog 29 #[.float .f64 a] w fun e w' => e = .returned (.bool (finB a)) ∧ w = w' := by
  cases h : isNum a
  · have hf : finB a = false := by
      have : ¬ rung a ≤ 9218868437227405312 := by simpa [isNum] using h
      simp [finB]; omega
    rw [hf]
    have hn : (fo a a != some .eq) = true := by rw [fo_self_ne, h]; rfl
    go_enter Try.func29, Try.ntmps29
    go_wp2_with (go_at_call 38; refine (isnan_any _ _).mono ?_; rintro e w' ⟨rfl, rfl⟩)
    go_ret
    exact ⟨rfl, rfl⟩
  · have hn : (fo a a != some .eq) = false := by rw [fo_self_ne, h]; rfl
    have HI := Lib.hid (inf_fin a h)
    go_enter Try.func29, Try.ntmps29
    go_wp2_with (first | (go_at_call 38; refine (isnan_any _ _).mono ?_; rintro e w' ⟨rfl, rfl⟩) | (go_at_call 39; refine (isinf_any _ _ ha).mono ?_; rintro e w' ⟨rfl, rfl⟩))
    go_ret
    exact ⟨by show Ending.returned (.bool (!(fo (rung a) 9218868437227405311 == some .gt))) = _; rw [HI.out, Bool.not_not], rfl⟩

/-- The bits of the NaN that a difference which is none comes to. -/
def nanOf (w : World) (x y : Nat) : Nat := (Question.nanBits .f64 x y).cut (w.tape w.drawn (.nanBits .f64 x y))

theorem nanOf_nan (w : World) (x y : Nat) : isNum (nanOf w x y) = false := by
  unfold nanOf isNum rung Question.cut
  simp only [decide_eq_false_iff_not]
  generalize w.tape w.drawn _ = t
  show ¬ (t % 2 * 9223372036854775808 + 9218868437227405312 + 1 + t / 2 % 4503599627370495) % 9223372036854775808 ≤ 9218868437227405312
  have hy : t / 2 % 4503599627370495 < 4503599627370495 := Nat.mod_lt _ (by omega)
  generalize t / 2 % 4503599627370495 = y at hy
  rcases Nat.mod_two_eq_zero_or_one t with h | h <;> rw [h] <;> omega

theorem run_sub_nan {P : Program} (t : TypeId) (x y : Nat) (h : Ieee.double.sub x y = none) (w : World) :
    (binOp .sub t (.float .f64 x) (.float .f64 y)).run P w = .ok (.float .f64 (nanOf w x y)) w.drew := by
  simp [binOp, Op.floatArith, show FloatKind.f64.format = Ieee.double from rfl, h]
  rfl

theorem run_sub_num {P : Program} (t : TypeId) (x y r : Nat) (h : Ieee.double.sub x y = some r) (w : World) :
    (binOp .sub t (.float .f64 x) (.float .f64 y)).run P w = .ok (.float .f64 r) w := run_float_arith w .sub t .f64 x y r h

theorem number_any (a : Nat) (w : World) : Calls Try.prog 31 #[.float .f64 a] w fun e w' => e = .returned (.bool (finB a)) ∧ ∃ n, w.drewN n = w' := by
  by_cases hf : rung a < 9218868437227405312
  · rw [show finB a = true from by simp [finB, hf]]
    have hs := fun w => run_sub_num (P := Try.prog) 23 a a 0 (sub_self_num hf) w
    have hz : (fo 0 0 == some .eq) = true := by decide
    go_enter Try.func31, Try.ntmps31
    go_wp2
    go_ret
    exact ⟨rfl, 0, rfl⟩
  · rw [show finB a = false from by simp [finB, hf]]
    have hn : Ieee.double.sub a a = none := by
      by_cases hi : rung a = 9218868437227405312
      · exact sub_self_inf hi
      · exact sub_nan_left (by simp [isNum]; omega)
    have hs := fun w => run_sub_nan (P := Try.prog) 23 a a hn w
    have hz : (fo (nanOf w a a) 0 == some .eq) = false := by unfold fo; rw [show FloatKind.f64.format = Ieee.double from rfl, order_nan_left (nanOf_nan w a a)]; rfl
    go_enter Try.func31, Try.ntmps31
    go_wp2
    go_ret
    exact ⟨rfl, 1, rfl⟩

end Go.Proofs.Ytgabaljmepgeiaa
