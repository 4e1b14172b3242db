/-
  Floats of 64 bits: how two of them stand to each other is how their rungs stand to each other; a number less itself is nought.
  No conditions: plain facts on words.
-/
import Derived.Laws.FloatArith
namespace Go.Proofs.Ytgabaljmepgeiaa

/-- The rung of a word. -/
def rung (b : Nat) : Nat := b % 9223372036854775808
/-- Is the sign bit set? -/
def sgn (b : Nat) : Bool := b / 9223372036854775808 % 2 == 1
/-- The rung with its sign. -/
def rk (b : Nat) : Int := if sgn b then -(rung b : Int) else (rung b : Int)
/-- A number or an infinity. -/
def isNum (b : Nat) : Bool := decide (rung b ≤ 9218868437227405312)

def val (r : Nat) : Nat := if r < 4503599627370496 then r else (4503599627370496 + r % 4503599627370496) * 2 ^ (r / 4503599627370496 - 1)

theorem val_zero : val 0 = 0 := rfl

theorem val_mono {r s : Nat} (h : r < s) : val r < val s := by
  unfold val
  by_cases hs : s < 4503599627370496
  · rw [if_pos (by omega), if_pos hs]; exact h
  · rw [if_neg hs]
    have hp : 0 < 2 ^ (s / 4503599627370496 - 1) := Nat.two_pow_pos _
    by_cases hr : r < 4503599627370496
    · rw [if_pos hr]
      calc r < 4503599627370496 + s % 4503599627370496 := by omega
        _ = (4503599627370496 + s % 4503599627370496) * 1 := by omega
        _ ≤ _ := Nat.mul_le_mul_left _ hp
    · rw [if_neg hr]
      by_cases hq : r / 4503599627370496 = s / 4503599627370496
      · rw [hq]
        exact Nat.mul_lt_mul_of_pos_right (by omega) hp
      · obtain ⟨q, hq1⟩ : ∃ q, r / 4503599627370496 = q + 1 := ⟨r / 4503599627370496 - 1, by omega⟩
        obtain ⟨d, hd⟩ : ∃ d, s / 4503599627370496 = q + 2 + d := ⟨s / 4503599627370496 - (q + 2), by omega⟩
        have e1 : r / 4503599627370496 - 1 = q := by omega
        have e2 : s / 4503599627370496 - 1 = q + 1 + d := by omega
        rw [e1, e2]
        have hpq : 0 < 2 ^ q := Nat.two_pow_pos _
        have hpd : 0 < 2 ^ d := Nat.two_pow_pos _
        calc (4503599627370496 + r % 4503599627370496) * 2 ^ q < (2 * 4503599627370496) * 2 ^ q := Nat.mul_lt_mul_of_pos_right (by omega) hpq
          _ = 4503599627370496 * 2 ^ (q + 1) := by rw [Nat.pow_succ]; generalize 2 ^ q = x; omega
          _ = 4503599627370496 * 2 ^ (q + 1) * 1 := by omega
          _ ≤ 4503599627370496 * 2 ^ (q + 1) * 2 ^ d := Nat.mul_le_mul_left _ hpd
          _ = 4503599627370496 * 2 ^ (q + 1 + d) := by rw [Nat.pow_add _ _ d, Nat.mul_assoc]
          _ ≤ _ := Nat.mul_le_mul_right _ (by omega)

theorem val_lt {r s : Nat} : val r < val s ↔ r < s :=
  ⟨fun h => by
    rcases Nat.lt_trichotomy r s with h1 | h1 | h1
    · exact h1
    · subst h1; omega
    · have := val_mono h1; omega, val_mono⟩

theorem val_eq {r s : Nat} : val r = val s ↔ r = s :=
  ⟨fun h => by
    rcases Nat.lt_trichotomy r s with h1 | h1 | h1
    · have := val_mono h1; omega
    · exact h1
    · have := val_mono h1; omega, fun h => by rw [h]⟩

theorem sw_eq : Ieee.double.signWeight = 9223372036854775808 := rfl
theorem bi_eq : Ieee.double.binade = 4503599627370496 := rfl
theorem ir_eq : Ieee.double.infRung = 9218868437227405312 := rfl

open Ieee

theorem read_num {b : Nat} (h : rung b < 9218868437227405312) : ∃ m e : Nat, double.read b = .number (sgn b) m (double.leastPlace + e) ∧ m * 2 ^ e = val (rung b) := by
  unfold Format.read
  rw [sw_eq, bi_eq, ir_eq]
  show ∃ m e : Nat, (if rung b < 4503599627370496 then Datum.number (sgn b) (rung b) double.leastPlace else if rung b < 9218868437227405312 then _ else _) = _ ∧ _
  unfold val
  by_cases h1 : rung b < 4503599627370496
  · rw [if_pos h1, if_pos h1]; exact ⟨rung b, 0, by simp, by simp⟩
  · rw [if_neg h1, if_pos h, if_neg h1]
    exact ⟨_, _, rfl, rfl⟩

theorem read_inf {b : Nat} (h : rung b = 9218868437227405312) : double.read b = .infinity (sgn b) := by
  unfold Format.read
  rw [sw_eq, bi_eq, ir_eq]
  show (if rung b < 4503599627370496 then _ else if rung b < 9218868437227405312 then _ else if rung b = 9218868437227405312 then Datum.infinity (sgn b) else _) = _
  rw [if_neg (by omega), if_neg (by omega), if_pos h]

theorem read_nan {b : Nat} (h : 9218868437227405312 < rung b) : ∃ f, double.read b = .nan (sgn b) f := by
  unfold Format.read
  rw [sw_eq, bi_eq, ir_eq]
  show ∃ f, (if rung b < 4503599627370496 then _ else if rung b < 9218868437227405312 then _ else if rung b = 9218868437227405312 then Datum.infinity (sgn b) else Datum.nan (sgn b) _) = _
  rw [if_neg (by omega), if_neg (by omega), if_neg (by omega)]
  exact ⟨_, rfl⟩

theorem order_nan_left {x y : Nat} (h : isNum x = false) : double.order x y = none := by
  obtain ⟨f, hf⟩ := read_nan (b := x) (by simp [isNum] at h; omega)
  unfold Format.order
  rw [hf]; simp [Datum.order]

theorem order_nan_right {x y : Nat} (h : isNum y = false) : double.order x y = none := by
  obtain ⟨f, hf⟩ := read_nan (b := y) (by simp [isNum] at h; omega)
  unfold Format.order
  rw [hf]; cases double.read x <;> simp [Datum.order]

theorem cmp_scale (a b : Int) (c : Nat) (hc : 0 < c) : compare (a * c) (b * c) = compare a b := by
  have hc' : (0 : Int) < (c : Int) := by omega
  show compareOfLessAndEq _ _ = compareOfLessAndEq _ _
  unfold compareOfLessAndEq
  have e1 : (a * c < b * c) ↔ a < b := ⟨fun h => Int.lt_of_mul_lt_mul_right h (by omega), fun h => Int.mul_lt_mul_of_pos_right h hc'⟩
  have e2 : (a * c = b * c) ↔ a = b := ⟨fun h => Int.eq_of_mul_eq_mul_right (by omega) h, fun h => by rw [h]⟩
  simp only [e1, e2]

theorem signed_eq (s : Bool) (m k : Nat) : signed s m k = (if s then -1 else 1) * ((m * 2 ^ k : Nat) : Int) := by
  unfold signed
  rw [Nat.shiftLeft_eq]
  cases s <;> simp

theorem cmp_int (a b : Int) : compare a b = if a < b then Ordering.lt else if a = b then Ordering.eq else Ordering.gt := rfl

theorem cmp_val (s t : Bool) (r q : Nat) : compare ((if s then -1 else 1) * ((val r : Nat) : Int)) ((if t then -1 else 1) * ((val q : Nat) : Int)) = compare (if s then -(r : Int) else (r : Int)) (if t then -(q : Int) else (q : Int)) := by
  have h0 : val 0 = 0 := val_zero
  have hr : val r = 0 ↔ r = 0 := by rw [← h0, val_eq]; simp [h0]
  have hq : val q = 0 ↔ q = 0 := by rw [← h0, val_eq]; simp [h0]
  have h1 : val r < val q ↔ r < q := val_lt
  have h2 : val r = val q ↔ r = q := val_eq
  have h3 : val q < val r ↔ q < r := val_lt
  generalize val r = vr at *
  generalize val q = vq at *
  clear h0
  rw [cmp_int, cmp_int]
  rcases s with _ | _ <;> rcases t with _ | _ <;> simp only [if_true, if_false, Bool.false_eq_true] <;>
    (repeat' split) <;> first | rfl | (exfalso; omega)

theorem order_rk {x y : Nat} (hx : isNum x = true) (hy : isNum y = true) : double.order x y = some (compare (rk x) (rk y)) := by
  have hx' : rung x ≤ 9218868437227405312 := by simpa [isNum] using hx
  have hy' : rung y ≤ 9218868437227405312 := by simpa [isNum] using hy
  unfold Format.order
  by_cases h1 : rung x < 9218868437227405312
  · obtain ⟨m, e, hr, hv⟩ := read_num h1
    by_cases h2 : rung y < 9218868437227405312
    · obtain ⟨n, f, hs, hw⟩ := read_num h2
      rw [hr, hs]
      show some (compare (signed _ m _) (signed _ n _)) = _
      rw [signed_eq, signed_eq]
      congr 1
      have key : compare ((if sgn x then -1 else 1) * ((m * 2 ^ (double.leastPlace + ↑e - min (double.leastPlace + ↑e) (double.leastPlace + ↑f)).toNat : Nat) : Int)) ((if sgn y then -1 else 1) * ((n * 2 ^ (double.leastPlace + ↑f - min (double.leastPlace + ↑e) (double.leastPlace + ↑f)).toNat : Nat) : Int)) =
          compare ((if sgn x then -1 else 1) * ((val (rung x) : Nat) : Int)) ((if sgn y then -1 else 1) * ((val (rung y) : Nat) : Int)) := by
        rw [← cmp_scale _ _ (2 ^ min e f) (Nat.two_pow_pos _), Int.mul_assoc, Int.mul_assoc, ← Int.natCast_mul, ← Int.natCast_mul, Nat.mul_assoc, Nat.mul_assoc, ← Nat.pow_add, ← Nat.pow_add]
        have e1 : (double.leastPlace + ↑e - min (double.leastPlace + ↑e) (double.leastPlace + ↑f)).toNat + min e f = e := by omega
        have e2 : (double.leastPlace + ↑f - min (double.leastPlace + ↑e) (double.leastPlace + ↑f)).toNat + min e f = f := by omega
        rw [e1, e2, hv, hw]
      rw [key, cmp_val]
      rfl
    · have h2' : rung y = 9218868437227405312 := by omega
      rw [hr, read_inf h2']
      show some (if sgn y then Ordering.gt else Ordering.lt) = _
      rw [cmp_int]
      unfold rk
      cases sgn x <;> cases sgn y <;> simp only [if_true, if_false, Bool.false_eq_true] <;> (repeat' split) <;> first | rfl | (exfalso; omega)
  · have h1' : rung x = 9218868437227405312 := by omega
    by_cases h2 : rung y < 9218868437227405312
    · obtain ⟨n, f, hs, hw⟩ := read_num h2
      rw [hs, read_inf h1']
      show some (if sgn x then Ordering.lt else Ordering.gt) = _
      rw [cmp_int]
      unfold rk
      cases sgn x <;> cases sgn y <;> simp only [if_true, if_false, Bool.false_eq_true] <;> (repeat' split) <;> first | rfl | (exfalso; omega)
    · have h2' : rung y = 9218868437227405312 := by omega
      rw [read_inf h1', read_inf h2']
      unfold rk
      rw [h1', h2']
      cases sgn x <;> cases sgn y <;> rfl

theorem sub_self_num {b : Nat} (h : rung b < 9218868437227405312) : double.sub b b = some 0 := by
  obtain ⟨m, e, hr, _⟩ := read_num h
  unfold Format.sub
  rw [hr]
  show (Datum.sum (.number (sgn b) m _) (.number (!sgn b) m _)).map _ = _
  have hz : ∀ k, signed (sgn b) m k + signed (!sgn b) m k = 0 := fun k => by
    rw [signed_eq, signed_eq]; cases sgn b <;> simp <;> omega
  simp only [Datum.sum, hz, if_true, Option.map_some]
  cases sgn b <;> rfl

theorem sub_self_inf {b : Nat} (h : rung b = 9218868437227405312) : double.sub b b = none := by
  unfold Format.sub
  rw [read_inf h]
  cases sgn b <;> rfl

theorem sub_nan_left {x y : Nat} (h : isNum x = false) : double.sub x y = none := by
  obtain ⟨f, hf⟩ := read_nan (b := x) (by simp [isNum] at h; omega)
  unfold Format.sub
  rw [hf]; simp [Datum.sum]

theorem sub_nan_right {x y : Nat} (h : isNum y = false) : double.sub x y = none := by
  obtain ⟨f, hf⟩ := read_nan (b := y) (by simp [isNum] at h; omega)
  unfold Format.sub
  rw [hf]; cases double.read x <;> simp [Datum.sum, Datum.opposite]

/-- What a difference that is a number comes to is a number. -/
theorem nearest_num (neg : Bool) (m : Nat) (p : Int) : isNum (double.nearest neg m p) = true := by
  have hw : ∀ r, r ≤ 9218868437227405312 → isNum (double.word neg r) = true := fun r hr => by
    unfold isNum rung Format.word
    rw [sw_eq]
    cases neg <;> simp <;> omega
  unfold Format.nearest
  dsimp only
  split
  · exact hw _ (by omega)
  · exact hw _ (by rw [ir_eq]; exact Nat.min_le_right _ _)

theorem sum_num {x y d : Datum} (h : x.sum y = some d) : isNum (double.write d) = true := by
  have hi : ∀ s, isNum (double.word s double.infRung) = true := fun s => by cases s <;> rfl
  unfold Datum.sum at h
  split at h <;> simp at h
  · obtain ⟨_, rfl⟩ := h; exact hi _
  · subst h; exact hi _
  · subst h; exact hi _
  · subst h; exact nearest_num _ _ _

theorem sub_num {x y r : Nat} (h : double.sub x y = some r) : isNum r = true := by
  unfold Format.sub at h
  cases hs : (double.read x).sum (double.read y).opposite with
  | none => rw [hs] at h; cases h
  | some d => rw [hs] at h; simp at h; subst h; exact sum_num hs

end Go.Proofs.Ytgabaljmepgeiaa
