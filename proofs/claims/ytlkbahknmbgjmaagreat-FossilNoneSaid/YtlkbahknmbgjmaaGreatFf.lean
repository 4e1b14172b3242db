/-
  What model.Ins comes to.
  No conditions.
-/
import Derived.Test.YtlkbahknmbgjmaaGreatFc
namespace Go.Proofs.YtlkbahknmbgjmaaGreat
open Go Go.RowKit

def needOf (n : Int) : Bytes :=
  if n = 0 then [45, 45, 45] else if n = 1 then [114, 45, 45] else if n = 2 ∨ n = 11 ∨ n = 13 ∨ n = 14 then [114, 114, 45]
  else if n = 3 ∨ n = 4 ∨ n = 5 ∨ n = 6 ∨ n = 7 ∨ n = 8 ∨ n = 12 then [114, 114, 114] else if n = 9 then [112, 45, 45] else if n = 10 then [114, 112, 45] else []

set_option maxHeartbeats 4000000 in
set_option maxRecDepth 100000 in
theorem needs_any (n : Int) (w : World) : Calls Tryz.prog 251 #[.int .i64 n] w fun e w' => e = .returned (str (needOf n)) ∧ Below w.heap.size w w' := by
  go_enter Tryz.func251, Tryz.ntmps251
  go_wp2
  all_goals go_ret
  all_goals refine ⟨?_, Below.refl _ _⟩
  all_goals simp_all [needOf]

/-- Is a part right? -/
def PartOk (c : Nat) (n len : Int) : Prop := (c ≠ 114 ∨ (0 ≤ n ∧ n ≤ 7)) ∧ (c ≠ 112 ∨ (0 ≤ n ∧ n ≤ len))
instance (c : Nat) (n len : Int) : Decidable (PartOk c n len) := by unfold PartOk; infer_instance
def PartsOk (x y z : Nat) (a b c len : Int) : Bool := decide (PartOk x a len ∧ PartOk y b len ∧ PartOk z c len)

theorem needOf_cases (n : Int) : needOf n = [] ∨ ∃ x y z : UInt8, needOf n = [x, y, z] ∧ (x = 45 ∨ x = 112 ∨ x = 114) ∧ (y = 45 ∨ y = 112 ∨ y = 114) ∧ (z = 45 ∨ z = 112 ∨ z = 114) := by
  unfold needOf
  repeat' split
  all_goals first | exact .inl rfl | exact .inr ⟨_, _, _, rfl, by simp, by simp, by simp⟩

set_option maxHeartbeats 4000000 in
set_option maxRecDepth 100000 in
theorem ins_any (op a b c len : Int) (w : World) (x y z : UInt8) (hN : needOf op = [x, y, z]) (hx : x.toNat < 128) (hy : y.toNat < 128) (hz : z.toNat < 128) :
    Calls Tryz.prog 184 #[.agg #[.int .i64 op, .int .i64 a, .int .i64 b, .int .i64 c], .int .i64 len] w fun e w' => e = .returned (.bool (PartsOk x.toNat y.toNat z.toNat a b c len)) ∧ Below w.heap.size w w' := by
  have HN := Lib.hid (needs_any op)
  rw [hN] at HN
  clear hN
  go_enter Tryz.func184, Tryz.ntmps184
  go_wp2_with (go_at_call 251; refine (HN.out _).mono ?_; rintro e w' ⟨rfl, hb⟩)
  have hcs : Cells ((w.alloc (.cells #[.int .i64 op, .int .i64 a, .int .i64 b, .int .i64 c] 178)).alloc (.cells #[.int .i64 a, .int .i64 b, .int .i64 c] 429)) (w.heap.size + 1) 429 #[.int .i64 a, .int .i64 b, .int .i64 c] := by
    have := cells_new (w.alloc (.cells #[.int .i64 op, .int .i64 a, .int .i64 b, .int .i64 c] 178)) #[.int .i64 a, .int .i64 b, .int .i64 c] 429
    simpa using this
  have hcs := hcs.below hb
  have hbw : Below w.heap.size w w' := (((Below.refl _ _).alloc (Nat.le_refl _) _).alloc (by simp) _).trans (hb.mono (by simp; omega))
  have hlt := hcs.lt
  clear hb
  generalize hg : w.heap.size + 1 = g at *
  have hit : ∀ k j, (w'.iter ⟨[x, y, z].toArray⟩ k).cell? ⟨g, j, none⟩ = #[Value.int .i64 a, .int .i64 b, .int .i64 c][j]? := fun k j => (hcs.alloc (.stringIter ⟨[x, y, z].toArray⟩ k)).cell j
  have d0 := hit 1 0
  have d1 := hit 2 1
  have d2 := hit 3 2
  simp at d0 d1 d2
  have n0 : ∀ ty, (Instr.next (.pointer (some ⟨w'.heap.size, 0, none⟩)) true ty).run Tryz.prog (w'.iter ⟨[x, y, z].toArray⟩ 0) = .ok (.tuple #[.bool true, .int .i64 0, .int .i32 (x.toNat : Int)]) (w'.iter ⟨[x, y, z].toArray⟩ 1) := fun ty => run_next_ascii w' ⟨[x, y, z].toArray⟩ 0 ty (by show 0 < 3; omega) hx
  have n1 : ∀ ty, (Instr.next (.pointer (some ⟨w'.heap.size, 0, none⟩)) true ty).run Tryz.prog (w'.iter ⟨[x, y, z].toArray⟩ 1) = .ok (.tuple #[.bool true, .int .i64 1, .int .i32 (y.toNat : Int)]) (w'.iter ⟨[x, y, z].toArray⟩ 2) := fun ty => run_next_ascii w' ⟨[x, y, z].toArray⟩ 1 ty (by show 1 < 3; omega) hy
  have n2 : ∀ ty, (Instr.next (.pointer (some ⟨w'.heap.size, 0, none⟩)) true ty).run Tryz.prog (w'.iter ⟨[x, y, z].toArray⟩ 2) = .ok (.tuple #[.bool true, .int .i64 2, .int .i32 (z.toNat : Int)]) (w'.iter ⟨[x, y, z].toArray⟩ 3) := fun ty => run_next_ascii w' ⟨[x, y, z].toArray⟩ 2 ty (by show 2 < 3; omega) hz
  have n3 : ∀ ty, (Instr.next (.pointer (some ⟨w'.heap.size, 0, none⟩)) true ty).run Tryz.prog (w'.iter ⟨[x, y, z].toArray⟩ 3) = .ok (.tuple #[.bool false]) (w'.iter ⟨[x, y, z].toArray⟩ 3) := fun ty => run_next_end w' ⟨[x, y, z].toArray⟩ 3 ty (by show ¬ 3 < 3; omega)
  clear hit
  refine wp_loop_rounds 4 ?_
  have hbi : ∀ k, Below w.heap.size w (w'.iter ⟨#[x, y, z]⟩ k) := fun k => hbw.alloc hbw.size _
  clear hbw hcs HN
  rw [rounds_succ]
  go_wp2
  all_goals first
    | (go_ret; refine ⟨?_, hbi _⟩; first | (rw [show PartsOk x.toNat y.toNat z.toNat a b c len = false from decide_eq_false (by unfold PartOk; omega)]; rfl) | (rw [show PartsOk x.toNat y.toNat z.toNat a b c len = true from decide_eq_true (by unfold PartOk; omega)]; rfl))
    | (rw [rounds_succ]; go_wp2
       all_goals first
         | (go_ret; refine ⟨?_, hbi _⟩; first | (rw [show PartsOk x.toNat y.toNat z.toNat a b c len = false from decide_eq_false (by unfold PartOk; omega)]; rfl) | (rw [show PartsOk x.toNat y.toNat z.toNat a b c len = true from decide_eq_true (by unfold PartOk; omega)]; rfl))
         | (rw [rounds_succ]; go_wp2
            all_goals first
              | (go_ret; refine ⟨?_, hbi _⟩; first | (rw [show PartsOk x.toNat y.toNat z.toNat a b c len = false from decide_eq_false (by unfold PartOk; omega)]; rfl) | (rw [show PartsOk x.toNat y.toNat z.toNat a b c len = true from decide_eq_true (by unfold PartOk; omega)]; rfl))
              | (rw [rounds_succ]; go_wp2
                 all_goals first
                   | (go_ret; refine ⟨?_, hbi _⟩; first | (rw [show PartsOk x.toNat y.toNat z.toNat a b c len = false from decide_eq_false (by unfold PartOk; omega)]; rfl) | (rw [show PartsOk x.toNat y.toNat z.toNat a b c len = true from decide_eq_true (by unfold PartOk; omega)]; rfl))
                   | skip)))

end Go.Proofs.YtlkbahknmbgjmaaGreat
