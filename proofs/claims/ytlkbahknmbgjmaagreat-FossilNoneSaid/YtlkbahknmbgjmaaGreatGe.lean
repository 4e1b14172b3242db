/-
  slices.Insert at node.Entry where there is room.
  No conditions.
-/
import Derived.Test.YtlkbahknmbgjmaaGreatGv
namespace Go.Proofs.YtlkbahknmbgjmaaGreat
open Go Go.RowKit

set_option maxHeartbeats 4000000 in
set_option maxRecDepth 100000 in
theorem insert_shift (b off n c i vb voff m vc : Nat) (cs vs : List Value) (w : World) (hi : i < n) (hm : 0 < m) (hroom : n + m ≤ c) (hbig : n + m ≤ 1048576) (hvb : vb ≠ b)
    (hcl : cs.length = n * 3) (hvl : vs.length = m * 3) (hcs : w.rangeAt b off cs) (hsp : w.there b off ((n + m) * 3)) (hvs : w.rangeAt vb voff vs) (h1c : ∀ v ∈ cs, v.oneCell' = true) (h1v : ∀ v ∈ vs, v.oneCell' = true)
    (tA tB : TypeId) (kA kB : Nat) (hsa : w.shape? vb = some (tA, kA)) (hsb : w.shape? b = some (tB, kB)) (hkB : kB ≠ 0) (hfa : w.frozen? ⟨vb, voff, none⟩ = false) (hfe : w.frozen? ⟨vb, kA, none⟩ = false) :
    Calls Tryz.prog 234 #[.slice (some ⟨b, off, none⟩) n c, .int .i64 i, .slice (some ⟨vb, voff, none⟩) m vc] w fun e w' =>
      e = .returned (.slice (some ⟨b, off, none⟩) (n + m) c) ∧ w' = (w.drew.setCells b (off + (i + m) * 3) (cs.drop (i * 3))).setCells b (off + i * 3) vs := by
  have hz1 : ¬ ((m : Int) = 0) := by omega
  have hz2 : ¬ ((i : Int) = (n : Int)) := by omega
  have hz : ∀ w : World, (sizeOf 343).run Tryz.prog w = .ok 3 w := fun w => by kernel_rfl
  have hov : ∀ lb cb, (callFunc 283 #[.slice (some ⟨vb, voff, none⟩) m vc, .slice (some ⟨b, off + (i + m) * 3, none⟩) lb cb]).run Tryz.prog w = .ok (.value (.bool false)) w := fun lb cb => by
    rw [run_callFunc_extern Tryz.func283 (by kernel_rfl) (by kernel_rfl) (by kernel_rfl) (e := Extern.SlicesOverlaps.overlaps #[335, 335] #[4]) (by kernel_rfl),
      Lib.run_overlaps_apart w 335 4 343 (by kernel_rfl) 3 hz ⟨vb, voff, none⟩ ⟨b, off + (i + m) * 3, none⟩ m vc lb cb hvb tA tB kA kB hsa hsb hkB hfa hfe]
    rfl
  have hdl : (cs.drop (i * 3)).length = (n - i) * 3 := by rw [List.length_drop, hcl]; omega
  have hw1 : IntKind.i64.wrap ((i : Int) + (m : Int)) = (i : Int) + (m : Int) := by rw [IntKind.wrap_i64]; omega
  have hb1 : (0 : Int) ≤ (i : Int) + (m : Int) := by omega
  have hin : i ≤ n := by omega
  have htn : ((i : Int) + (m : Int)).toNat = i + m := by omega
  have hb2 : ¬ (c = i + m) := by omega
  have hb3 : (i : Int) ≤ (n : Int) + (m : Int) := by omega
  have hb4 : ¬ (c = i) := by omega
  have hcp1 : ∀ ty dc sc, (Builtin.copy_ #[335, 335] ty #[.slice (some ⟨b, off + (i + m) * 3, none⟩) (n + m - (i + m)) dc, .slice (some ⟨b, off + i * 3, none⟩) (n + m - i) sc]).run Tryz.prog w.drew = .ok (goInt (n - i : Nat)) (w.drew.setCells b (off + (i + m) * 3) (cs.drop (i * 3))) := fun ty dc sc =>
    copy_entries w.drew ty b (off + (i + m) * 3) _ dc b (off + i * 3) _ sc (n - i) _ (by simp only [Nat.min_def]; split <;> omega) hdl
      (fun j v hj => by
        have := hcs (i * 3 + j) v (by rwa [List.getElem?_drop] at hj)
        rwa [← Nat.add_assoc] at this)
      (fun j hj => by
        have := hsp ((i + m) * 3 + j) (by omega)
        rwa [← Nat.add_assoc] at this)
      (fun v hv => h1c v (List.mem_of_mem_drop hv))
  obtain ⟨W1, hW1⟩ : ∃ W1, W1 = w.drew.setCells b (off + (i + m) * 3) (cs.drop (i * 3)) := ⟨_, rfl⟩
  have hcp2 : ∀ (W : World), (∀ x, W.cell? x = W1.cell? x) → (∀ x, W.frozen? x = W1.frozen? x) → ∀ ty dc, (Builtin.copy_ #[335, 335] ty #[.slice (some ⟨b, off + i * 3, none⟩) (n + m - i) dc, .slice (some ⟨vb, voff, none⟩) m vc]).run Tryz.prog W = .ok (goInt m) (W.setCells b (off + i * 3) vs) := fun W hWc hWf ty dc =>
    copy_entries W ty b (off + i * 3) _ dc vb voff m vc m vs (by simp only [Nat.min_def]; split <;> omega) hvl
      (fun j v hj => by
        rw [hWc, hW1, World.cell?_setCells_out b _ _ _ _ (fun h _ => absurd h hvb)]
        exact hvs j v hj)
      (fun j hj => by
        have := hsp (i * 3 + j) (by omega)
        rw [← Nat.add_assoc] at this
        rw [hWc, hWf, hW1, World.frozen?_setCells]
        exact ⟨World.isSome_setCells _ _ _ _ _ this.1, this.2⟩) h1v
  rw [← hW1] at hcp1
  clear hcs hsp hvs h1c h1v
  go_enter Tryz.func234, Tryz.ntmps234
  go_wp2_with (simp only [hov])
  go_region_law (refine step_copy_run3 rfl _ _ 335 335 rfl _ _ (by simp [Act.eval, Act.put]) (by simp [Act.eval, Act.put]) (hcp1 _ _ _) ?_)
  go_wp2_with (at_builtin; refine wpList_copy_run3 _ rfl _ _ 335 335 rfl _ _ rfl rfl (hcp2 _ (fun _ => rfl) (fun _ => rfl) _ _) ?_)
  go_ret
  first | exact ⟨rfl, rfl⟩ | exact ⟨rfl, by rw [hW1]⟩

end Go.Proofs.YtlkbahknmbgjmaaGreat
