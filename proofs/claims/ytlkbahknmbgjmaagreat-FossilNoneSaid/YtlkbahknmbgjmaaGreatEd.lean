/-
  The interpreter's numbers and strings are the model's.
  No conditions.
-/
import Derived.Test.YtlkbahknmbgjmaaGreatEc
import Derived.Laws.Strings
import Derived.Laws.Concat
import Derived.Laws.Cover1
import Derived.Laws.FloatArith
namespace Go.Proofs.YtlkbahknmbgjmaaGreat.Ev
open Go

/-! ### Numbers -/
theorem iAdd_eq (a b : Int) : iAdd a b = a + b := by cases a <;> cases b <;> rfl
theorem iMul_eq (a b : Int) : iMul a b = a * b := by cases a <;> cases b <;> rfl
theorem iSub_eq (a b : Int) : iSub a b = a - b := by
  cases a with
  | negSucc m => cases b <;> rfl
  | ofNat m =>
    cases b with
    | negSucc n => rfl
    | ofNat n =>
      show (Bool.rec (motive := fun _ => Int) (Int.sub (.ofNat m) (.ofNat n)) (.ofNat (Nat.sub m n)) (Nat.ble n m)) = _
      cases h : Nat.ble n m with
      | false => rfl
      | true =>
        have := Nat.le_of_ble_eq_true h
        show ((m - n : Nat) : Int) = (m : Int) - (n : Int)
        omega
theorem iLt_eq (a b : Int) : iLt a b = decide (a < b) := by
  cases a with
  | negSucc m => cases b <;> rfl
  | ofNat m =>
    cases b with
    | negSucc n => rfl
    | ofNat n =>
      show Nat.ble (m + 1) n = _
      rw [Bool.eq_iff_iff, Nat.ble_eq, decide_eq_true_iff]
      show _ ↔ (m : Int) < (n : Int)
      omega
theorem iEq_eq (a b : Int) : iEq a b = decide (a = b) := by
  cases a with
  | negSucc m => cases b <;> rfl
  | ofNat m =>
    cases b with
    | negSucc n => rfl
    | ofNat n =>
      show Nat.beq m n = _
      rw [Bool.eq_iff_iff, Nat.beq_eq, decide_eq_true_iff]
      show _ ↔ (m : Int) = (n : Int)
      omega
theorem iEq_beq (a b : Int) : iEq a b = (a == b) := by rw [iEq_eq]; rfl

theorem ikEq_eq {a b : IntKind} (h : ikEq a b = true) : a = b := by cases a <;> cases b <;> first | rfl | cases h

theorem wrap_small (k : IntKind) (m : Nat) (h : m < half k) : k.wrap (m : Int) = m := by
  unfold IntKind.wrap
  cases k <;> simp only [half, IntKind.bits, IntKind.signed] at * <;> simp <;> omega

theorem wrapF_eq (k : IntKind) (n : Int) : wrapF k n = k.wrap n := by
  cases n with
  | negSucc m => rfl
  | ofNat m =>
    show (Bool.rec (motive := fun _ => Int) (.ofNat m) (k.wrap (.ofNat m)) (Nat.ble (half k) m)) = _
    cases h : Nat.ble (half k) m with
    | true => rfl
    | false =>
      have : ¬ half k ≤ m := fun h' => by rw [Nat.ble_eq_true_of_le h'] at h; cases h
      exact (wrap_small k m (by omega)).symm

/-- half k, as a power. -/
def hbit : IntKind → Nat
  | .i8 => 7 | .u8 => 8 | .i16 => 15 | .u16 => 16 | .i32 => 31 | .u32 => 32 | .i64 => 63 | .u64 => 64
theorem half_pow (k : IntKind) : half k = 2 ^ hbit k := by cases k <;> rfl
theorem hbit_le (k : IntKind) : hbit k ≤ k.bits := by cases k <;> decide

theorem ofInt_nat (b m : Nat) (h : m < 2 ^ b) : (BitVec.ofInt b (m : Int)).toNat = m := by
  rw [BitVec.ofInt_natCast, BitVec.toNat_ofNat, Nat.mod_eq_of_lt h]

theorem half_lt (k : IntKind) {m : Nat} (h : m < half k) : m < 2 ^ k.bits := by
  rw [half_pow] at h
  exact Nat.lt_of_lt_of_le h (Nat.pow_le_pow_right (by omega) (hbit_le k))

theorem intBits_nat (P : Program) (w : World) (op : BinOp) (k : IntKind) (m n r : Nat) (hm : m < half k) (hn : n < half k)
    (hop : (op = .and ∧ r = m &&& n) ∨ (op = .or ∧ r = m ||| n) ∨ (op = .xor ∧ r = m ^^^ n) ∨ (op = .andNot ∧ r = m ^^^ (m &&& n))) :
    (Op.intBits op k (m : Int) (n : Int)).run P w = .ok (.int k (r : Int)) w := by
  have h1 := ofInt_nat k.bits m (half_lt k hm)
  have h2 := ofInt_nat k.bits n (half_lt k hn)
  have hr : r < half k := by
    rw [half_pow] at *
    rcases hop with ⟨_, rfl⟩ | ⟨_, rfl⟩ | ⟨_, rfl⟩ | ⟨_, rfl⟩
    · exact Nat.and_lt_two_pow _ hn
    · exact Nat.or_lt_two_pow hm hn
    · exact Nat.xor_lt_two_pow hm hn
    · exact Nat.xor_lt_two_pow hm (Nat.and_lt_two_pow _ hn)
  have hw := wrap_small k r hr
  unfold Op.intBits
  rcases hop with ⟨rfl, rfl⟩ | ⟨rfl, rfl⟩ | ⟨rfl, rfl⟩ | ⟨rfl, rfl⟩
  · simp only [BitVec.toNat_and, h1, h2, hw, Sem.run_pure]
  · simp only [BitVec.toNat_or, h1, h2, hw, Sem.run_pure]
  · simp only [BitVec.toNat_xor, h1, h2, hw, Sem.run_pure]
  · have e : (BitVec.ofInt k.bits (m : Int) &&& ~~~BitVec.ofInt k.bits (n : Int)).toNat = m ^^^ (m &&& n) := by
      apply Nat.eq_of_testBit_eq
      intro i
      rw [← BitVec.getLsbD, BitVec.getLsbD_and, BitVec.getLsbD_not, BitVec.getLsbD, BitVec.getLsbD, h1, h2, Nat.testBit_xor, Nat.testBit_and]
      by_cases hi : i < k.bits
      · cases Nat.testBit m i <;> cases Nat.testBit n i <;> simp [hi]
      · have : Nat.testBit m i = false := Nat.testBit_lt_two_pow (Nat.lt_of_lt_of_le (half_lt k hm) (Nat.pow_le_pow_right (by omega) (by omega)))
        simp [this]
    simp only [Sem.run_pure, e, hw]

/-- An operation on two ints as the model has it. -/
theorem ib_ok (P : Program) (k l : IntKind) (op : BinOp) (t : TypeId) (a b : Int) (q : AV → Out) (out : Out) (h : (ib k op).of a b q = out) (hn : out ≠ .no)
    (hl : op = .shl ∨ op = .shr ∨ k = l) : ∃ v, q v = out ∧ ∀ (μ : Mp) (w : World), ∃ u, (binOp op t (.int k a) (.int l b)).run P w = .ok u w ∧ VR μ v u := by
  have hnat : ∀ {f : Nat → Nat → Nat}, (two? k f).of a b q = out → ∃ m n : Nat, a = m ∧ b = n ∧ m < half k ∧ n < half k ∧ q (.int k (.ofNat (f m n))) = out := by
    intro f h
    cases a with
    | negSucc m => exact absurd h.symm hn
    | ofNat m =>
      cases b with
      | negSucc n => exact absurd h.symm hn
      | ofNat n =>
        obtain ⟨h1, h⟩ := bif_no h hn
        obtain ⟨h2, h⟩ := bif_no h hn
        refine ⟨m, n, rfl, rfl, ?_, ?_, h⟩
        · rcases Nat.lt_or_ge m (half k) with h' | h'
          · exact h'
          · rw [Nat.ble_eq_true_of_le h'] at h1; cases h1
        · rcases Nat.lt_or_ge n (half k) with h' | h'
          · exact h'
          · rw [Nat.ble_eq_true_of_le h'] at h2; cases h2
  cases op with
  | add =>
    obtain rfl := hl.resolve_left (by simp) |>.resolve_left (by simp)
    exact ⟨_, h, fun μ w => ⟨.int k (k.wrap (a + b)), by simp [binOp, Op.intArith], by rw [wrapF_eq, iAdd_eq]; constructor⟩⟩
  | sub =>
    obtain rfl := hl.resolve_left (by simp) |>.resolve_left (by simp)
    exact ⟨_, h, fun μ w => ⟨.int k (k.wrap (a - b)), by simp [binOp, Op.intArith], by rw [wrapF_eq, iSub_eq]; constructor⟩⟩
  | mul =>
    obtain rfl := hl.resolve_left (by simp) |>.resolve_left (by simp)
    exact ⟨_, h, fun μ w => ⟨.int k (k.wrap (a * b)), by simp [binOp, Op.intArith], by rw [wrapF_eq, iMul_eq]; constructor⟩⟩
  | quo =>
    obtain rfl := hl.resolve_left (by simp) |>.resolve_left (by simp)
    obtain ⟨h0, h⟩ := bif_no h hn
    rw [iEq_eq] at h0
    have h0 : ¬ b = 0 := of_decide_eq_false h0
    exact ⟨_, h, fun μ w => ⟨.int k (k.wrap (a.tdiv b)), by simp [binOp, Op.intDiv, h0], by rw [wrapF_eq]; constructor⟩⟩
  | rem =>
    obtain rfl := hl.resolve_left (by simp) |>.resolve_left (by simp)
    obtain ⟨h0, h⟩ := bif_no h hn
    rw [iEq_eq] at h0
    have h0 : ¬ b = 0 := of_decide_eq_false h0
    exact ⟨_, h, fun μ w => ⟨.int k (a.tmod b), by simp [binOp, Op.intDiv, h0], by constructor⟩⟩
  | and =>
    obtain rfl := hl.resolve_left (by simp) |>.resolve_left (by simp)
    obtain ⟨m, n, rfl, rfl, hm, hn', h⟩ := hnat h
    exact ⟨_, h, fun μ w => ⟨_, by simp only [binOp]; rw [if_neg (by simp)]; exact intBits_nat P w .and k m n _ hm hn' (.inl ⟨rfl, rfl⟩), by constructor⟩⟩
  | or =>
    obtain rfl := hl.resolve_left (by simp) |>.resolve_left (by simp)
    obtain ⟨m, n, rfl, rfl, hm, hn', h⟩ := hnat h
    exact ⟨_, h, fun μ w => ⟨_, by simp only [binOp]; rw [if_neg (by simp)]; exact intBits_nat P w .or k m n _ hm hn' (.inr (.inl ⟨rfl, rfl⟩)), by constructor⟩⟩
  | xor =>
    obtain rfl := hl.resolve_left (by simp) |>.resolve_left (by simp)
    obtain ⟨m, n, rfl, rfl, hm, hn', h⟩ := hnat h
    exact ⟨_, h, fun μ w => ⟨_, by simp only [binOp]; rw [if_neg (by simp)]; exact intBits_nat P w .xor k m n _ hm hn' (.inr (.inr (.inl ⟨rfl, rfl⟩))), by constructor⟩⟩
  | andNot =>
    obtain rfl := hl.resolve_left (by simp) |>.resolve_left (by simp)
    obtain ⟨m, n, rfl, rfl, hm, hn', h⟩ := hnat h
    exact ⟨_, h, fun μ w => ⟨_, by simp only [binOp]; rw [if_neg (by simp)]; exact intBits_nat P w .andNot k m n _ hm hn' (.inr (.inr (.inr ⟨rfl, rfl⟩))), by constructor⟩⟩
  | shl =>
    cases a with
    | negSucc m => exact absurd h.symm hn
    | ofNat m =>
      cases b with
      | negSucc n => exact absurd h.symm hn
      | ofNat n =>
        refine ⟨_, h, fun μ w => ⟨.int k (k.wrap ((m : Int) * 2 ^ (min n k.bits))), ?_, ?_⟩⟩
        · have h0 : ¬ ((n : Int) < 0) := by omega
          simp [binOp, Op.shift, h0]
        · rw [wrapF_eq]
          have : Int.ofNat (Nat.shiftLeft m (min n k.bits)) = (m : Int) * 2 ^ (min n k.bits) := by
            show ((m <<< (min n k.bits) : Nat) : Int) = _
            rw [Nat.shiftLeft_eq]; simp
          rw [this]; constructor
  | shr =>
    cases a with
    | negSucc m => exact absurd h.symm hn
    | ofNat m =>
      cases b with
      | negSucc n => exact absurd h.symm hn
      | ofNat n =>
        refine ⟨_, h, fun μ w => ⟨.int k ((m : Int).fdiv (2 ^ (min n k.bits))), ?_, ?_⟩⟩
        · have h0 : ¬ ((n : Int) < 0) := by omega
          simp [binOp, Op.shift, h0]
        · have : Int.ofNat (Nat.shiftRight m (min n k.bits)) = (m : Int).fdiv (2 ^ (min n k.bits)) := by
            show ((m >>> (min n k.bits) : Nat) : Int) = _
            rw [Nat.shiftRight_eq_div_pow, Int.fdiv_eq_ediv_of_nonneg _ (by exact_mod_cast Nat.zero_le _)]
            simp
          rw [this]; constructor
  | eql =>
    obtain rfl := hl.resolve_left (by simp) |>.resolve_left (by simp)
    exact ⟨_, h, fun μ w => ⟨.bool (a == b), by simp [binOp, Op.intCmp], by rw [iEq_beq]; constructor⟩⟩
  | neq =>
    obtain rfl := hl.resolve_left (by simp) |>.resolve_left (by simp)
    exact ⟨_, h, fun μ w => ⟨.bool (a != b), by simp [binOp, Op.intCmp], by rw [iEq_beq]; constructor⟩⟩
  | lss =>
    obtain rfl := hl.resolve_left (by simp) |>.resolve_left (by simp)
    exact ⟨_, h, fun μ w => ⟨.bool (decide (a < b)), by simp [binOp, Op.intCmp], by rw [iLt_eq]; constructor⟩⟩
  | leq =>
    obtain rfl := hl.resolve_left (by simp) |>.resolve_left (by simp)
    exact ⟨_, h, fun μ w => ⟨.bool (decide (a ≤ b)), by simp [binOp, Op.intCmp], by
      have e : (!iLt b a) = decide (a ≤ b) := by rw [iLt_eq, Bool.eq_iff_iff]; simp
      rw [e]; constructor⟩⟩
  | gtr =>
    obtain rfl := hl.resolve_left (by simp) |>.resolve_left (by simp)
    exact ⟨_, h, fun μ w => ⟨.bool (decide (a > b)), by simp [binOp, Op.intCmp], by rw [iLt_eq]; constructor⟩⟩
  | geq =>
    obtain rfl := hl.resolve_left (by simp) |>.resolve_left (by simp)
    exact ⟨_, h, fun μ w => ⟨.bool (decide (a ≥ b)), by simp [binOp, Op.intCmp], by
      have e : (!iLt a b) = decide (a ≥ b) := by rw [iLt_eq, Bool.eq_iff_iff]; simp
      rw [e]; constructor⟩⟩

/-! ### Strings -/
theorem sel_true {β : Type} (x y : β) : sel x y true = x := rfl
theorem sel_false {β : Type} (x y : β) : sel x y false = y := rfl

theorem appN_eq : ∀ (x y : List Nat), appN x y = x ++ y
  | [], _ => rfl
  | v :: x, y => congrArg (v :: ·) (appN_eq x y)

theorem beq_nat_u8 (a b : UInt8) : Nat.beq a.toNat b.toNat = (a == b) := by
  rw [Bool.eq_iff_iff, Nat.beq_eq, beq_iff_eq]
  exact ⟨fun h => UInt8.toNat_inj.1 h, fun h => by rw [h]⟩

theorem sEq_eq : ∀ (x y : List UInt8), sEq (x.map UInt8.toNat) (y.map UInt8.toNat) = (x == y)
  | [], [] => rfl
  | [], _ :: _ => rfl
  | _ :: _, [] => rfl
  | a :: x, b :: y => by
    show sel (sEq (x.map UInt8.toNat) (y.map UInt8.toNat)) false (Nat.beq a.toNat b.toNat) = _
    rw [sEq_eq x y, beq_nat_u8]
    show _ = (a == b && x == y)
    cases a == b <;> rfl

theorem sLt_eq : ∀ (x y : List UInt8), sLt (x.map UInt8.toNat) (y.map UInt8.toNat) = Op.bytesLess x y
  | [], [] => rfl
  | [], _ :: _ => rfl
  | _ :: _, [] => rfl
  | a :: x, b :: y => by
    show sel (sLt (x.map UInt8.toNat) (y.map UInt8.toNat)) (Nat.ble a.toNat b.toNat) (Nat.beq a.toNat b.toNat) = _
    rw [sLt_eq x y, beq_nat_u8]
    show _ = (decide (a < b) || (a == b && Op.bytesLess x y))
    cases h : a == b with
    | true =>
      have : a = b := by simpa using h
      subst this
      simp [sel]
    | false =>
      have hne : a ≠ b := by simpa using h
      have hne' : a.toNat ≠ b.toNat := fun e => hne (UInt8.toNat_inj.1 e)
      show Nat.ble a.toNat b.toNat = _
      simp only [Bool.false_and, Bool.or_false]
      rw [Bool.eq_iff_iff, Nat.ble_eq, decide_eq_true_iff, UInt8.lt_iff_toNat_lt]
      omega

theorem str_inv {μ : Mp} {s : List Nat} {v : Value} (h : VR μ (.str s) v) : ∃ b : ByteArray, v = .string b ∧ b.data.toList.map UInt8.toNat = s := by
  cases h with
  | str h => exact ⟨_, rfl, h⟩
theorem str_size {b : ByteArray} {s : List Nat} (h : b.data.toList.map UInt8.toNat = s) : b.size = s.length := by
  rw [← h, List.length_map, Array.length_toList]; rfl

theorem sel_or : ∀ a b : Bool, sel true b a = (a || b) := by intro a b; cases a <;> rfl

theorem sb_ok (P : Program) (op : BinOp) (t : TypeId) (m n : List Nat) (q : AV → Out) (out : Out) (h : (sb op).of m n q = out) (hn : out ≠ .no) :
    ∃ v, q v = out ∧ ∀ (μ : Mp) (w : World) (x y : ByteArray), x.data.toList.map UInt8.toNat = m → y.data.toList.map UInt8.toNat = n →
      ∃ u, (binOp op t (.string x) (.string y)).run P w = .ok u w ∧ VR μ v u := by
  have e1 : ∀ (x y : ByteArray), x.data.toList.map UInt8.toNat = m → y.data.toList.map UInt8.toNat = n → (x.toList == y.toList) = sEq m n := by
    intro x y hx hy; rw [← hx, ← hy, sEq_eq, ByteArray.toList_eq, ByteArray.toList_eq]
  have e2 : ∀ (x y : ByteArray), x.data.toList.map UInt8.toNat = m → y.data.toList.map UInt8.toNat = n → Op.bytesLess x.toList y.toList = sLt m n := by
    intro x y hx hy; rw [← hx, ← hy, sLt_eq, ByteArray.toList_eq, ByteArray.toList_eq]
  cases op with
  | add =>
    obtain ⟨hb, h⟩ := bif_yes h hn
    have hb := Nat.le_of_ble_eq_true hb
    rw [sLen_eq, sLen_eq] at hb
    have hb : m.length + n.length ≤ 8388608 := hb
    refine ⟨_, h, fun μ w x y hx hy => ⟨.string (x ++ y), ?_, .str ?_⟩⟩
    · rw [binOp_string_add]
      exact run_string_add_sum w x y (by rw [str_size hx, str_size hy]; omega)
    · rw [appN_eq, ByteArray.data_append, Array.toList_append, List.map_append, hx, hy]
  | eql => exact ⟨_, h, fun μ w x y hx hy => ⟨_, by rw [binOp_string_eql]; rfl, by rw [e1 x y hx hy]; constructor⟩⟩
  | neq => exact ⟨_, h, fun μ w x y hx hy => ⟨_, by rw [binOp_string_neq]; rfl, by rw [e1 x y hx hy]; constructor⟩⟩
  | lss => exact ⟨_, h, fun μ w x y hx hy => ⟨_, by rw [binOp_string_lss]; rfl, by rw [e2 x y hx hy]; constructor⟩⟩
  | leq => exact ⟨_, h, fun μ w x y hx hy => ⟨_, by rw [binOp_string_leq]; rfl, by rw [e1 x y hx hy, e2 x y hx hy, sel_or]; constructor⟩⟩
  | gtr => exact ⟨_, h, fun μ w x y hx hy => ⟨_, by rw [binOp_string_gtr]; rfl, by rw [e1 x y hx hy, e2 x y hx hy, sel_or]; constructor⟩⟩
  | geq => exact ⟨_, h, fun μ w x y hx hy => ⟨_, by rw [binOp_string_geq]; rfl, by rw [e2 x y hx hy]; constructor⟩⟩
  | _ => exact absurd h.symm hn

/-! ### Floats -/
theorem fb_ok (P : Program) (op : BinOp) (t : TypeId) (a b : Nat) (q : AV → Out) (out : Out) (h : (fb op).of a b q = out) (hn : out ≠ .no) :
    ∃ v, q v = out ∧ ∀ (μ : Mp) (w : World), ∃ u, (binOp op t (.float .f64 a) (.float .f64 b)).run P w = .ok u w ∧ VR μ v u := by
  cases op with
  | add =>
    have h' : fl q (FloatKind.f64.format.add a b) = out := h
    cases hf : FloatKind.f64.format.add a b with
    | none => rw [hf] at h'; exact absurd h'.symm hn
    | some r =>
      rw [hf] at h'
      exact ⟨_, h', fun μ w => ⟨.float .f64 r, by simp [binOp, Op.floatArith, hf], by constructor⟩⟩
  | eql => exact ⟨_, h, fun μ w => ⟨.bool _, by simp only [binOp, ne_eq, not_true_eq_false, if_false, Op.floatCmp, Sem.run_pure], .bool _⟩⟩
  | neq => exact ⟨_, h, fun μ w => ⟨.bool _, by simp only [binOp, ne_eq, not_true_eq_false, if_false, Op.floatCmp, Sem.run_pure], .bool _⟩⟩
  | lss => exact ⟨_, h, fun μ w => ⟨.bool _, by simp only [binOp, ne_eq, not_true_eq_false, if_false, Op.floatCmp, Sem.run_pure], .bool _⟩⟩
  | leq => exact ⟨_, h, fun μ w => ⟨.bool _, by simp only [binOp, ne_eq, not_true_eq_false, if_false, Op.floatCmp, Sem.run_pure], .bool _⟩⟩
  | gtr => exact ⟨_, h, fun μ w => ⟨.bool _, by simp only [binOp, ne_eq, not_true_eq_false, if_false, Op.floatCmp, Sem.run_pure], .bool _⟩⟩
  | _ => exact absurd h.symm hn

end Go.Proofs.YtlkbahknmbgjmaaGreat.Ev
