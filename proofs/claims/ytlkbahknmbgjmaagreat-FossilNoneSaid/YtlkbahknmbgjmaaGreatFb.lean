/-
  What 'slots' asks of two bytes and of two slots.
  No conditions but that the bytes are there.
-/
import Derived.Test.YtlkbahknmbgjmaaGreatLb
namespace Go.Proofs.YtlkbahknmbgjmaaGreat
open Go.RowKit

theorem bits_or_i64_nat (a b : Nat) (ha : a < 9223372036854775808) (hb : b < 9223372036854775808) : bits .or .i64 (a : Int) (b : Int) = ((a ||| b : Nat) : Int) := by
  have hx : a ||| b < 2 ^ 63 := Nat.or_lt_two_pow (by omega) (by omega)
  have h1 : (BitVec.ofInt 64 (a : Int)).toNat = a := by
    rw [BitVec.ofInt_natCast, BitVec.toNat_ofNat]; exact Nat.mod_eq_of_lt (by omega)
  have h2 : (BitVec.ofInt 64 (b : Int)).toNat = b := by
    rw [BitVec.ofInt_natCast, BitVec.toNat_ofNat]; exact Nat.mod_eq_of_lt (by omega)
  show IntKind.i64.wrap ((BitVec.ofInt 64 (a : Int) ||| BitVec.ofInt 64 (b : Int)).toNat : Int) = _
  rw [BitVec.toNat_or, h1, h2]
  simp only [IntKind.wrap, IntKind.signed, IntKind.bits]
  simp
  omega
theorem two_bits (b c : UInt8) : bits BinOp.or IntKind.i64 (wrap64 (wrap64 (b.toNat : Int) * 256)) (wrap64 (c.toNat : Int)) = ((b.toNat * 256 + c.toNat : Nat) : Int) := by
  have hb := b.toNat_lt
  have hc := c.toNat_lt
  have e : ∀ n : Nat, n < 65536 → wrap64 (n : Int) = (n : Int) := fun n h => by
    unfold wrap64; omega
  rw [e b.toNat (by omega), e c.toNat (by omega), show ((b.toNat : Nat) : Int) * 256 = ((b.toNat * 256 : Nat) : Int) by simp, e (b.toNat * 256) (by omega), bits_or_i64_nat _ _ (by omega) (by omega)]
  have := Nat.two_pow_add_eq_or_of_lt (i := 8) (b := c.toNat) (by omega) b.toNat
  rw [Nat.mul_comm] at this
  rw [← this]

set_option maxHeartbeats 2000000 in
theorem two_any (s : Bytes) (k : Nat) (hs : k ≤ 1048576) (b c : UInt8) (hb : s[k]? = some b) (hc : s[k + 1]? = some c) (w : World) :
    Calls Tryz.prog 334 #[str s, .int .i64 k] w fun e w' => e = .returned (.int .i64 ((b.toNat * 256 + c.toNat : Nat) : Int)) ∧ Below w.heap.size w w' := by
  have hk : k + 1 < s.length := by
    rcases Nat.lt_or_ge (k + 1) s.length with h | h
    · exact h
    · rw [List.getElem?_eq_none h] at hc; cases hc
  have hk0 : k < s.length := by omega
  have hbb := b.toNat_lt
  have hcc := c.toNat_lt
  have e1 : IntKind.i64.wrap ((k : Int) + 1) = ((k + 1 : Nat) : Int) := by
    simp only [IntKind.wrap, IntKind.signed, IntKind.bits]; simp; omega
  clear hs
  generalize k + 1 = m at *
  go_enter Tryz.func334, Tryz.ntmps334
  go_wp2
  go_quiet (simp only [e1])
  go_wp2
  go_ret
  refine ⟨?_, ⟨rfl, rfl, rfl, Nat.le_refl _, fun _ _ => rfl⟩⟩
  have hx : ({ data := s.toArray } : ByteArray)[k]'(by show k < s.toArray.size; simpa using hk0) = b := str_get hb _
  have hy : ({ data := s.toArray } : ByteArray)[m]'(by show m < s.toArray.size; simpa using hk) = c := str_get hc _
  rw [hx, hy, two_bits b c]; rfl

set_option maxHeartbeats 4000000 in
theorem apart_any (a b c d : Int) (h1 : -4611686018427387904 ≤ a + b) (h2 : a + b ≤ 4611686018427387904) (h3 : -4611686018427387904 ≤ c + d) (h4 : c + d ≤ 4611686018427387904) (w : World) :
    Calls Tryz.prog 355 #[.agg #[.int .i64 a, .int .i64 b], .agg #[.int .i64 c, .int .i64 d]] w fun e w' => e = .returned (.bool (decide (b = 0) || decide (d = 0) || decide (a + b ≤ c) || decide (c + d ≤ a))) ∧ Below w.heap.size w w' := by
  go_enter Tryz.func355, Tryz.ntmps355
  go_wp2
  all_goals go_ret
  all_goals refine ⟨?_, ((Below.refl _ _).alloc (Nat.le_refl _) _).alloc (by simp) _⟩
  all_goals simp only [show (b == 0) = decide (b = 0) from rfl, show (d == 0) = decide (d = 0) from rfl]
  all_goals simp_all

end Go.Proofs.YtlkbahknmbgjmaaGreat
