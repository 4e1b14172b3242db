/-
  model.Ins as the interpreter takes it.
  No conditions.
-/
import Derived.Test.YtlkbahknmbgjmaaGreatFf
namespace Go.Proofs.YtlkbahknmbgjmaaGreat
open Go Go.RowKit

set_option maxHeartbeats 4000000 in
set_option maxRecDepth 100000 in
theorem ins_none (op a b c len : Int) (w : World) (hN : needOf op = []) :
    Calls Tryz.prog 184 #[.agg #[.int .i64 op, .int .i64 a, .int .i64 b, .int .i64 c], .int .i64 len] w fun e w' => e = .returned (.bool false) ∧ Below w.heap.size w w' := by
  have HN := Lib.hid (needs_any op)
  rw [hN] at HN
  clear hN
  go_enter Tryz.func184, Tryz.ntmps184
  go_wp2_with (go_at_call 251; refine (HN.out _).mono ?_; rintro e w' ⟨rfl, hb⟩)
  have hbw : Below w.heap.size w w' := (((Below.refl _ _).alloc (Nat.le_refl _) _).alloc (by simp) _).trans (hb.mono (by simp; omega))
  have n3 : ∀ ty, (Instr.next (.pointer (some ⟨w'.heap.size, 0, none⟩)) true ty).run Tryz.prog (w'.iter ⟨([] : Bytes).toArray⟩ 0) = .ok (.tuple #[.bool false]) (w'.iter ⟨([] : Bytes).toArray⟩ 0) := fun ty => run_next_end w' ⟨([] : Bytes).toArray⟩ 0 ty (by show ¬ 0 < 0; omega)
  have hbi : ∀ k, Below w.heap.size w (w'.iter ⟨#[]⟩ k) := fun k => hbw.alloc hbw.size _
  clear hbw hb HN
  refine wp_loop_rounds 1 ?_
  rw [rounds_succ]
  go_wp2
  go_ret
  exact ⟨rfl, hbi _⟩

namespace Ev
theorem regOk_eq (n : Int) : regOk n = decide (0 ≤ n ∧ n ≤ 7) := by
  unfold regOk
  rw [iLt_eq, iLt_eq]
  have e : ((.ofNat 0 : Int)) = 0 := rfl
  have e7 : ((.ofNat 7 : Int)) = 7 := rfl
  rw [e, e7, Bool.eq_iff_iff]
  simp
theorem posOk_eq (n len : Int) : posOk n len = decide (0 ≤ n ∧ n ≤ len) := by
  unfold posOk
  rw [iLt_eq, iLt_eq]
  have e : ((.ofNat 0 : Int)) = 0 := rfl
  rw [e, Bool.eq_iff_iff]
  simp

theorem insOk_eq (op a b c len : Int) : (needOf op = [] ∧ insOk op a b c len = false) ∨ ∃ x y z : UInt8, needOf op = [x, y, z] ∧ x.toNat < 128 ∧ y.toNat < 128 ∧ z.toNat < 128 ∧ insOk op a b c len = PartsOk x.toNat y.toNat z.toNat a b c len := by
  have key : ∀ (o : Nat) (x y z : UInt8), needOf (o : Int) = [x, y, z] → x.toNat < 128 → y.toNat < 128 → z.toNat < 128 → (insOk (o : Int) a b c len = true ↔ (PartOk x.toNat a len ∧ PartOk y.toNat b len ∧ PartOk z.toNat c len)) →
      (needOf (o : Int) = [] ∧ insOk (o : Int) a b c len = false) ∨ ∃ x y z : UInt8, needOf (o : Int) = [x, y, z] ∧ x.toNat < 128 ∧ y.toNat < 128 ∧ z.toNat < 128 ∧ insOk (o : Int) a b c len = PartsOk x.toNat y.toNat z.toNat a b c len := fun o x y z h1 h2 h3 h4 h5 =>
    .inr ⟨x, y, z, h1, h2, h3, h4, by unfold PartsOk; rw [Bool.eq_iff_iff, h5]; simp⟩
  cases op with
  | negSucc o =>
    refine .inl ⟨?_, rfl⟩
    unfold needOf
    repeat rw [if_neg (by omega)]
  | ofNat o =>
    match o with
    | 0 => exact key 0 45 45 45 (by decide) (by decide) (by decide) (by decide) (by simp [insOk, PartOk])
    | 1 => exact key 1 114 45 45 (by decide) (by decide) (by decide) (by decide) (by simp [insOk, PartOk, regOk_eq])
    | 2 => exact key 2 114 114 45 (by decide) (by decide) (by decide) (by decide) (by simp [insOk, PartOk, regOk_eq])
    | 3 => exact key 3 114 114 114 (by decide) (by decide) (by decide) (by decide) (by simp [insOk, PartOk, regOk_eq, and_assoc])
    | 4 => exact key 4 114 114 114 (by decide) (by decide) (by decide) (by decide) (by simp [insOk, PartOk, regOk_eq, and_assoc])
    | 5 => exact key 5 114 114 114 (by decide) (by decide) (by decide) (by decide) (by simp [insOk, PartOk, regOk_eq, and_assoc])
    | 6 => exact key 6 114 114 114 (by decide) (by decide) (by decide) (by decide) (by simp [insOk, PartOk, regOk_eq, and_assoc])
    | 7 => exact key 7 114 114 114 (by decide) (by decide) (by decide) (by decide) (by simp [insOk, PartOk, regOk_eq, and_assoc])
    | 8 => exact key 8 114 114 114 (by decide) (by decide) (by decide) (by decide) (by simp [insOk, PartOk, regOk_eq, and_assoc])
    | 9 => exact key 9 112 45 45 (by decide) (by decide) (by decide) (by decide) (by simp [insOk, PartOk, posOk_eq])
    | 10 => exact key 10 114 112 45 (by decide) (by decide) (by decide) (by decide) (by simp [insOk, PartOk, regOk_eq, posOk_eq])
    | 11 => exact key 11 114 114 45 (by decide) (by decide) (by decide) (by decide) (by simp [insOk, PartOk, regOk_eq])
    | 12 => exact key 12 114 114 114 (by decide) (by decide) (by decide) (by decide) (by simp [insOk, PartOk, regOk_eq, and_assoc])
    | 13 => exact key 13 114 114 45 (by decide) (by decide) (by decide) (by decide) (by simp [insOk, PartOk, regOk_eq])
    | 14 => exact key 14 114 114 45 (by decide) (by decide) (by decide) (by decide) (by simp [insOk, PartOk, regOk_eq])
    | o + 15 =>
      refine .inl ⟨?_, ?_⟩
      · rw [show (Int.ofNat (o + 15)) = (((o + 15 : Nat)) : Int) from rfl]
        unfold needOf
        repeat rw [if_neg (by omega)]
      · have : Nat.ble (o + 15) 14 = false := by
          cases h : Nat.ble (o + 15) 14 with
          | false => rfl
          | true => have := Nat.le_of_ble_eq_true h; omega
        show (if Nat.ble (o + 15) 14 then (regOk a && regOk b && regOk c) else false) = false
        rw [this]; rfl

set_option maxRecDepth 100000 in
theorem pIns_ok : FcOk Tryz.prog 184 pIns := fun ca _ l h k out e hn => by
  unfold pIns at e
  dsimp only at e
  split at e
  · rename_i op a b c len
    refine ⟨_, h, e, CallOk.calls Tryz.func184 (by kernel_rfl) rfl fun μ w args hv => ?_⟩
    obtain ⟨v, u, rfl, g1, g2⟩ := hv.two
    obtain ⟨vs, rfl, r1, _⟩ := agg_inv g1
    obtain rfl := int_inv g2
    cases r1 with
    | cons r2 r3 =>
      obtain ⟨y1, y2, y3, rfl, r4, r5, r6⟩ := r3.three
      obtain rfl := int_inv r2
      obtain rfl := int_inv r4
      obtain rfl := int_inv r5
      obtain rfl := int_inv r6
      refine ⟨.bool (insOk op a b c len), .bool _, ?_⟩
      rcases insOk_eq op a b c len with ⟨h1, h2⟩ | ⟨x, y, z, h1, h2, h3, h4, h5⟩
      · rw [h2]; exact ins_none op a b c len w h1
      · rw [h5]; exact ins_any op a b c len w x y z h1 h2 h3 h4
  · exact absurd e.symm hn
end Ev

end Go.Proofs.YtlkbahknmbgjmaaGreat
