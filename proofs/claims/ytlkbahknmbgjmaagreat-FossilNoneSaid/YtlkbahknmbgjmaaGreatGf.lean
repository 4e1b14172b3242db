/-
  slices.Insert at node.Entry where there is no room.
  No conditions.
-/
import Derived.Test.YtlkbahknmbgjmaaGreatGv
import Derived.Lib.Hide
namespace Go.Proofs.YtlkbahknmbgjmaaGreat
open Go Go.RowKit

theorem block_lt3 {w : World} {b o : Nat} {v : Value} (h : w.cell? ⟨b, o, none⟩ = some v) : b < w.heap.size := block_lt_of_cell h

set_option maxHeartbeats 4000000 in
set_option maxRecDepth 100000 in
theorem insert_grow (b off n c i vb voff m vc : Nat) (cs vs : List Value) (w : World) (hi : i < n) (hm : 0 < m) (hnc : n ≤ c) (hroom : c < n + m) (hbig : n + m ≤ 1048576)
    (hcl : cs.length = n * 3) (hvl : vs.length = m * 3) (hcs : w.rangeAt b off cs) (hvs : w.rangeAt vb voff vs) (h1c : ∀ v ∈ cs, v.oneCell' = true) (h1v : ∀ v ∈ vs, v.oneCell' = true) :
    Calls Tryz.prog 234 #[.slice (some ⟨b, off, none⟩) n c, .int .i64 i, .slice (some ⟨vb, voff, none⟩) m vc] w fun e w' =>
      ∃ G z1 z2, n + m ≤ G ∧ z1.size = (n + m - i) * 3 ∧ z2.size = (G - (n + m)) * 3 ∧ e = .returned (.slice (some ⟨w.heap.size, 0, none⟩) (n + m) G) ∧
      w' = (((w.alloc (.cells ((cs.take (i * 3)).toArray ++ z1 ++ z2) 343)).drew.setCells w.heap.size (i * 3) vs).drew).setCells w.heap.size ((i + m) * 3) (cs.drop (i * 3)) := by
  obtain ⟨i0, hi0, zv, hz0, hzs, hzb, hzv⟩ : ∃ i0, Tryz.prog.info? 343 = some i0 ∧ ∃ zv, i0.zero = some zv ∧ i0.size = 3 ∧ i0.bytes = 40 ∧ zv.cells.size = 3 := ⟨_, rfl, _, rfl, by kernel_rfl, by kernel_rfl, by kernel_rfl⟩
  have hu : Tryz.prog.underlying 335 = some (.slice 343) := by kernel_rfl
  have hu3 : Tryz.prog.underlying 3 = some (.int .i64) := by kernel_rfl
  have hz1 : ¬ ((m : Int) = 0) := by omega
  have hz2 : ¬ ((i : Int) = (n : Int)) := by omega
  have hz3 : (c : Int) < (n : Int) + (m : Int) := by omega
  have hbw : b < w.heap.size := block_lt3 (hcs 0 _ (List.getElem?_eq_getElem (by omega)))
  have hvw : vb < w.heap.size := block_lt3 (hvs 0 _ (List.getElem?_eq_getElem (by omega)))
  have hkk : (n : Int) + (m : Int) - (i : Int) = ((n + m - i : Nat) : Int) := by omega
  have hik : i + (n + m - i) = n + m := by omega
  have hold : (Builtin.firstCells i0.size i (.slice (some ⟨b, off, none⟩) i c)).run Tryz.prog w.drew = .ok (cs.take (i * 3)).toArray w.drew := by
    rw [hzs]
    refine Ev.firstCells_slice (P := Tryz.prog) w.drew 3 i b off i c (cs.take (i * 3)) (fun j v hj => ?_) (by rw [List.length_take]; omega)
    rw [List.getElem?_take] at hj
    split at hj
    · exact hcs j v hj
    · cases hj
  have hrz : ∀ ty, (Builtin.append_ #[335, 3] ty #[.slice (some ⟨b, off, none⟩) i c, .int .i64 ((n : Int) + (m : Int) - (i : Int))]).run Tryz.prog w =
      .ok (.slice (some ⟨w.heap.size, 0, none⟩) (n + m) (grownCap w (n + m) c 343)) (w.drew.alloc (.cells ((cs.take (i * 3)).toArray ++ Builtin.zeroCells zv.cells (n + m - i) ++ Builtin.zeroCells zv.cells (grownCap w (n + m) c 343 - (n + m))) 343)) := fun ty => by
    have h := Lib.run_append_grow_zeros w 335 3 ty 343 i0 zv .i64 .i64 hu hu3 hi0 hz0 (some ⟨b, off, none⟩) i c (cs.take (i * 3)) hold (n + m - i) (by omega) (by omega) (by omega) (by omega) (by rw [hzb]; omega) (by rw [hzb, hik]; exact growslice_fits hroom (by omega))
    rw [hik] at h
    rw [hkk]
    exact h
  obtain ⟨G, hG⟩ : ∃ G, G = grownCap w (n + m) c 343 := ⟨_, rfl⟩
  obtain ⟨z1, hzz1⟩ : ∃ z1, z1 = Builtin.zeroCells zv.cells (n + m - i) := ⟨_, rfl⟩
  obtain ⟨z2, hzz2⟩ : ∃ z2, z2 = Builtin.zeroCells zv.cells (G - (n + m)) := ⟨_, rfl⟩
  have hs1 : z1.size = (n + m - i) * 3 := by rw [hzz1, size_zeroCells, hzv]
  have hs2 : z2.size = (G - (n + m)) * 3 := by rw [hzz2, size_zeroCells, hzv]
  rw [← hG, ← hzz1, ← hzz2] at hrz
  obtain ⟨ROW, hROW⟩ : ∃ ROW : Array Value, ROW = (cs.take (i * 3)).toArray ++ z1 ++ z2 := ⟨_, rfl⟩
  rw [← hROW] at hrz
  have hRl : (n + m) * 3 ≤ ROW.size := by
    rw [hROW]
    simp [hs1, hs2]
    omega
  obtain ⟨W1, hW1⟩ : ∃ W1, W1 = w.drew.alloc (.cells ROW 343) := ⟨_, rfl⟩
  rw [← hW1] at hrz
  have hN : ∀ j, j < (n + m) * 3 → (W1.cell? ⟨w.heap.size, j, none⟩).isSome = true := fun j hj => by
    rw [hW1, World.cell?_alloc_at (w := w.drew) ROW _ w.heap.size j rfl, Array.getElem?_eq_getElem (by omega)]; rfl
  have hNf : ∀ j, W1.frozen? ⟨w.heap.size, j, none⟩ = false := fun j => by rw [hW1]; exact World.frozen?_alloc_at (w := w.drew) ROW _ w.heap.size j rfl
  have hOb : ∀ j v, w.cell? ⟨b, j, none⟩ = some v → W1.cell? ⟨b, j, none⟩ = some v := fun j v h => by rw [hW1, World.cell?_alloc_past (w := w.drew) _ b j hbw]; exact h
  have hOv : ∀ j v, w.cell? ⟨vb, j, none⟩ = some v → W1.cell? ⟨vb, j, none⟩ = some v := fun j v h => by rw [hW1, World.cell?_alloc_past (w := w.drew) _ vb j hvw]; exact h
  have hcpA : ∀ (W : World), (∀ x, W.cell? x = W1.cell? x) → (∀ x, W.frozen? x = W1.frozen? x) → ∀ ty dc, (Builtin.copy_ #[335, 335] ty #[.slice (some ⟨w.heap.size, i * 3, none⟩) (n + m - i) dc, .slice (some ⟨vb, voff, none⟩) m vc]).run Tryz.prog W = .ok (goInt m) (W.setCells w.heap.size (i * 3) vs) := fun W hWc hWf ty dc =>
    copy_entries W ty w.heap.size (i * 3) _ dc vb voff m vc m vs (by simp only [Nat.min_def]; split <;> omega) hvl
      (fun j v hj => by rw [hWc]; exact hOv _ v (hvs j v hj))
      (fun j hj => by rw [hWc, hWf]; exact ⟨hN _ (by omega), hNf _⟩) h1v
  have hGn : n + m ≤ G := by rw [hG]; exact grownCap_ge w _ _ _
  have hG63 : G ≤ 9223372036854775807 := by
    have := grownCap_le_maxLen w (n + m) c 343 (by unfold maxLen; omega)
    rw [← hG] at this
    unfold maxLen at this
    omega
  have hGi : ¬ (G = i) := by omega
  have hGim : ¬ (G = i + m) := by omega
  have hci : ¬ (c = i) := by omega
  have hbN : b ≠ w.heap.size := by omega
  have hdl : (cs.drop (i * 3)).length = (n - i) * 3 := by rw [List.length_drop, hcl]; omega
  have hcpB : ∀ (W : World), (∀ x, W.cell? x = (W1.setCells w.heap.size (i * 3) vs).cell? x) → (∀ x, W.frozen? x = (W1.setCells w.heap.size (i * 3) vs).frozen? x) → ∀ ty dc sc, (Builtin.copy_ #[335, 335] ty #[.slice (some ⟨w.heap.size, (i + m) * 3, none⟩) (n + m - (i + m)) dc, .slice (some ⟨b, off + i * 3, none⟩) (n - i) sc]).run Tryz.prog W = .ok (goInt (n - i : Nat)) (W.setCells w.heap.size ((i + m) * 3) (cs.drop (i * 3))) := fun W hWc hWf ty dc sc =>
    copy_entries W ty w.heap.size ((i + m) * 3) _ dc b (off + i * 3) _ sc (n - i) _ (by simp only [Nat.min_def]; split <;> omega) hdl
      (fun j v hj => by
        rw [hWc, World.cell?_setCells_out _ _ _ _ _ (fun h _ => absurd h hbN), Nat.add_assoc]
        exact hOb _ v (hcs (i * 3 + j) v (by rwa [List.getElem?_drop] at hj)))
      (fun j hj => by
        rw [hWc, hWf, World.frozen?_setCells]
        exact ⟨World.isSome_setCells _ _ _ _ _ (hN _ (by omega)), hNf _⟩) (fun v hv => h1c v (List.mem_of_mem_drop hv))
  subst hW1
  have hE1 : ∀ x, ((w.alloc (.cells ROW 343)).drew).cell? x = (w.drew.alloc (.cells ROW 343)).cell? x := fun x => rfl
  have hE2 : ∀ x, ((w.alloc (.cells ROW 343)).drew).frozen? x = (w.drew.alloc (.cells ROW 343)).frozen? x := fun x => rfl
  have hF1 : ∀ x, (((w.alloc (.cells ROW 343)).drew.setCells w.heap.size (i * 3) vs).drew).cell? x = ((w.drew.alloc (.cells ROW 343)).setCells w.heap.size (i * 3) vs).cell? x := fun x => rfl
  have hF2 : ∀ x, (((w.alloc (.cells ROW 343)).drew.setCells w.heap.size (i * 3) vs).drew).frozen? x = ((w.drew.alloc (.cells ROW 343)).setCells w.heap.size (i * 3) vs).frozen? x := fun x => rfl
  have hw1 : IntKind.i64.wrap ((i : Int) + (m : Int)) = (i : Int) + (m : Int) := by rw [IntKind.wrap_i64]; omega
  have hb1 : (0 : Int) ≤ (i : Int) + (m : Int) := by omega
  have hin : i ≤ n := by omega
  have htn : ((i : Int) + (m : Int)).toNat = i + m := by omega
  have hb3 : (i : Int) ≤ (n : Int) := by omega
  have hRR := Lib.hid hROW
  clear hROW hkk hik hold hG hRl hOb hOv hN hNf hcs hvs h1c h1v hzz1 hzz2 hi0 hz0 hzs hzb hzv
  go_enter Tryz.func234, Tryz.ntmps234
  go_wp2_with (first
    | (at_builtin; refine Lib.wpList_append_run _ rfl _ _ _ _ rfl _ _ rfl rfl _ _ (hrz _) ?_)
    | (at_builtin; refine wpList_copy_run3 _ rfl _ _ 335 335 rfl _ _ rfl rfl (hcpA _ hE1 hE2 _ _) ?_)
    | (at_builtin; refine wpList_copy_run3 _ rfl _ _ 335 335 rfl _ _ rfl rfl (hcpB _ (fun _ => rfl) (fun _ => rfl) _ _ _) ?_))
  go_region_law (refine step_copy_run3 rfl _ _ 335 335 rfl (.slice (some ⟨w.heap.size, (i + m) * 3, none⟩) (n + m - (i + m)) (G - (i + m))) (.slice (some ⟨b, off + i * 3, none⟩) (n - i) (c - i)) (by simp [Act.eval, Act.put]) (by simp [Act.eval, Act.put]) (hcpB _ hF1 hF2 3 (G - (i + m)) (c - i)) ?_)
  go_wp2
  go_ret
  exact ⟨G, z1, z2, hGn, hs1, hs2, rfl, by rw [← hRR.out]⟩

end Go.Proofs.YtlkbahknmbgjmaaGreat
