/-
  The interpreter's summaries: floats' bits, strings in order, the check of bytes.
  No conditions.
-/
import Derived.Test.YtlkbahknmbgjmaaGreatEz
import Derived.Test.YtlkbahknmbgjmaaGreatEp
import Derived.Test.YtlkbahknmbgjmaaGreatLb
import Derived.Lib.Bytealg
import Derived.Laws.Externs
namespace Go.Proofs.YtlkbahknmbgjmaaGreat.Ev
open Go Go.RowKit

section
variable {P : Program}

theorem Stp.below {μ : Mp} {h : Hp} {w w' : World} (r : Rel μ h w) (b : Below w.heap.size w w') : Stp μ h w μ h w' where
  le := μ.le_refl
  new _ _ h := .inl h
  rel := ⟨fun c m hm => ⟨(r.lt c m hm).1, Nat.lt_of_lt_of_le (r.lt c m hm).2 b.size⟩, fun c k m hk hm => (r.br c k m hk hm).keep μ.le_refl (b.block _ (r.lt c m hm).2), r.inj, r.nx, r.fresh⟩
  next := Nat.le_refl _
  same _ _ _ := rfl
  live _ k _ hk _ := ⟨k, hk⟩
  foot x hx _ := b.block x hx
  os := b.os
  tape := b.tape
  output := b.output
  size := b.size

theorem CallOk.value {g : FuncId} {l : List AV} {h : Hp} {v : AV} (H : ∀ (μ : Mp) (w : World) (args : List Value), VRs μ l args → ∃ u, (callFunc g ⟨args⟩).run P w = .ok (.value u) w ∧ VR μ v u) : CallOk P g l h v h := fun μ w args hrel hv => by
  obtain ⟨u, h1, h2⟩ := H μ w args hv
  unfold CallWp
  rw [h1]
  exact ⟨μ, Stp.refl hrel, h2⟩

theorem CallOk.calls {g : FuncId} {fn : Func} {c : Code} (hf : P.funcs[g]? = some fn) (hname : (fn.name == "runtime.NumGoroutine") = false) (hb : fn.body = some c) {l : List AV} {h : Hp} {v : AV}
    (H : ∀ (μ : Mp) (w : World) (args : List Value), VRs μ l args → ∃ u, VR μ v u ∧ Calls P g ⟨args⟩ w fun e w' => e = .returned u ∧ Below w.heap.size w w') : CallOk P g l h v h := fun μ w args hrel hv => by
  obtain ⟨u, h1, h2⟩ := H μ w args hv
  unfold CallWp
  rw [MuLone.run_callFunc_enter hf hname hb]
  exact h2.mono fun e t ⟨he, hb⟩ => ⟨u, he, μ, Stp.below hrel hb, h1⟩
end

theorem VRs.one {μ : Mp} {x : AV} {vs : List Value} (h : VRs μ [x] vs) : ∃ v, vs = [v] ∧ VR μ x v := by
  cases h with
  | cons hx ht => cases ht; exact ⟨_, rfl, hx⟩
theorem VRs.two {μ : Mp} {x y : AV} {vs : List Value} (h : VRs μ [x, y] vs) : ∃ v u, vs = [v, u] ∧ VR μ x v ∧ VR μ y u := by
  cases h with
  | cons hx ht =>
    obtain ⟨u, rfl, hy⟩ := ht.one
    exact ⟨_, u, rfl, hx, hy⟩
theorem VRs.three {μ : Mp} {x y z : AV} {vs : List Value} (h : VRs μ [x, y, z] vs) : ∃ v u t, vs = [v, u, t] ∧ VR μ x v ∧ VR μ y u ∧ VR μ z t := by
  cases h with
  | cons hx ht =>
    obtain ⟨u, t, rfl, hy, hz⟩ := ht.two
    exact ⟨_, u, t, rfl, hx, hy, hz⟩

/-- A summary of one way: it may be taken, and it is so. -/
def FcOk (P : Program) (g : FuncId) (fc : Fc) : Prop := ∀ ca, CaOk P ca → ∀ l h k out, fc.of ca l h k = out → out ≠ .no → ∃ v h', k v h' = out ∧ CallOk P g l h v h'

set_option maxRecDepth 100000 in
theorem pBits_ok : FcOk Tryz.prog 217 pBits := fun ca _ l h k out e hn => by
  unfold pBits at e
  dsimp only at e
  split at e
  · refine ⟨_, h, e, CallOk.value fun μ w args hv => ?_⟩
    obtain ⟨v, rfl, h1⟩ := hv.one
    cases h1
    refine ⟨.int .u64 (_ : Nat), ?_, .int _ _⟩
    rw [run_callFunc_extern Tryz.func217 (by kernel_rfl) (by kernel_rfl) (by kernel_rfl) (show Extern.find Tryz.f217 = some Extern.MathFloatBits.float64bits by kernel_rfl)]
    rfl
  · exact absurd e.symm hn

set_option maxRecDepth 100000 in
theorem pFrom_ok : FcOk Tryz.prog 92 pFrom := fun ca _ l h k out e hn => by
  unfold pFrom at e
  dsimp only at e
  split at e
  · refine ⟨_, h, e, CallOk.value fun μ w args hv => ?_⟩
    obtain ⟨v, rfl, h1⟩ := hv.one
    cases h1
    refine ⟨.float .f64 _, ?_, .flt _ _⟩
    rw [run_callFunc_extern Tryz.func92 (by kernel_rfl) (by kernel_rfl) (by kernel_rfl) (show Extern.find Tryz.f92 = some Extern.MathFloatBits.float64frombits by kernel_rfl)]
    rfl
  · exact absurd e.symm hn

theorem compare_eq : ∀ (x y : List UInt8), Lib.compareBytes x y = sel (Int.negSucc 0) (sel (.ofNat 0) (.ofNat 1) (sEq (x.map UInt8.toNat) (y.map UInt8.toNat))) (sLt (x.map UInt8.toNat) (y.map UInt8.toNat))
  | [], [] => rfl
  | [], _ :: _ => rfl
  | _ :: _, [] => rfl
  | a :: x, b :: y => by
    have ih := compare_eq x y
    show (if a < b then -1 else if b < a then 1 else Lib.compareBytes x y) = sel _ (sel _ _ (sel (sEq (x.map UInt8.toNat) (y.map UInt8.toNat)) false (Nat.beq a.toNat b.toNat))) (sel (sLt (x.map UInt8.toNat) (y.map UInt8.toNat)) (Nat.ble a.toNat b.toNat) (Nat.beq a.toNat b.toNat))
    by_cases h1 : a < b
    · have hn : a.toNat < b.toNat := h1
      have hb : Nat.beq a.toNat b.toNat = false := by
        cases h : Nat.beq a.toNat b.toNat with
        | false => rfl
        | true => have := Nat.eq_of_beq_eq_true h; omega
      rw [if_pos h1, hb, Nat.ble_eq_true_of_le (Nat.le_of_lt hn)]; rfl
    · rw [if_neg h1]
      have hn : ¬ a.toNat < b.toNat := h1
      by_cases h2 : b < a
      · have hn2 : b.toNat < a.toNat := h2
        have hb : Nat.beq a.toNat b.toNat = false := by
          cases h : Nat.beq a.toNat b.toNat with
          | false => rfl
          | true => have := Nat.eq_of_beq_eq_true h; omega
        have hl : Nat.ble a.toNat b.toNat = false := by
          cases h : Nat.ble a.toNat b.toNat with
          | false => rfl
          | true => have := Nat.le_of_ble_eq_true h; omega
        rw [if_pos h2, hb, hl]; rfl
      · have hn2 : ¬ b.toNat < a.toNat := h2
        have : a.toNat = b.toNat := by omega
        rw [if_neg h2, this, Nat.beq_refl]; exact ih

set_option maxRecDepth 100000 in
theorem pCmp_ok : FcOk Tryz.prog 321 pCmp := fun ca _ l h k out e hn => by
  unfold pCmp at e
  dsimp only at e
  split at e
  · refine ⟨_, h, e, CallOk.value fun μ w args hv => ?_⟩
    obtain ⟨v, u, rfl, h1, h2⟩ := hv.two
    obtain ⟨x, rfl, hx⟩ := str_inv h1
    obtain ⟨y, rfl, hy⟩ := str_inv h2
    refine ⟨.int .i64 (Lib.compareBytes x.data.toList y.data.toList), ?_, ?_⟩
    · rw [run_callFunc_extern Tryz.func321 (by kernel_rfl) (by kernel_rfl) (by kernel_rfl) (show Extern.find Tryz.f321 = some Extern.BytealgCompare.compare by kernel_rfl)]
      show ((Extern.BytealgCompare.compare #[.string x, .string y]).run Tryz.prog w).andThen _ = _
      rw [Lib.run_compareString]; rfl
    · rw [compare_eq, hx, hy]; exact .int _ _
  · exact absurd e.symm hn

/-! ### The check of bytes -/
theorem half4_eq (r : Nat) : Ev.half4 r = YtlkbahknmbgjmaaGreat.half4 r := by
  unfold Ev.half4 YtlkbahknmbgjmaaGreat.half4
  have h1 : Nat.shiftRight r 4 = r / 16 := Nat.shiftRight_eq_div_pow r 4
  have h2 : Nat.land r 15 = r % 16 := Nat.and_two_pow_sub_one_eq_mod r 4
  rw [h1, h2]
  have hm : r % 16 < 16 := Nat.mod_lt _ (by decide)
  generalize r % 16 = m at hm
  have : Nat.land (Nat.shiftRight tabN (Nat.mul 32 m)) 4294967295 = crcTab[m]?.getD 0 := by
    have h : ∀ m : Fin 16, Nat.land (Nat.shiftRight tabN (Nat.mul 32 m.1)) 4294967295 = crcTab[m.1]?.getD 0 := by decide +kernel
    exact h ⟨m, hm⟩
  rw [this]; rfl

theorem crcF_eq : ∀ (l : List UInt8) (r : Nat), crcF (l.map UInt8.toNat) r = l.foldl take8 r
  | [], _ => rfl
  | c :: l, r => by
    show Nat.rec (motive := fun _ => Nat) (crcF (l.map UInt8.toNat) 0) (fun m _ => crcF (l.map UInt8.toNat) (Nat.succ m)) (Ev.half4 (Ev.half4 (Nat.xor r c.toNat))) = _
    have : ∀ n : Nat, Nat.rec (motive := fun _ => Nat) (crcF (l.map UInt8.toNat) 0) (fun m _ => crcF (l.map UInt8.toNat) (Nat.succ m)) n = crcF (l.map UInt8.toNat) n := fun n => by cases n <;> rfl
    rw [this, crcF_eq l, half4_eq, half4_eq]
    rfl

end Go.Proofs.YtlkbahknmbgjmaaGreat.Ev
