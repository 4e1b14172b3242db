/-
  WindowGaps answers true for every history, and leaves it as it was.
  No conditions.
-/
import Derived.Test.YtgabaljmepgeiaaOp
import Derived.Test.YtgabaljmepgeiaaPn
namespace Go.Proofs.Ytgabaljmepgeiaa
open Go.ChangeShapes Go.WideShapes Go.ChangeAt Go.RowKit Go.Deep

set_option maxHeartbeats 1000000 in
theorem gaps_law (A : Option Addr) (n c : Nat) (D : List Nat) (hDb : ∀ b ∈ D, b < 18446744073709551616) (hc : n ≤ c) (hm : c ≤ maxLen) (w : World) (hD : Hst w w.heap.size A n D) :
    Calls Try.prog 5 #[.slice A n c] w fun e w' => e = .returned (.bool true) ∧ RowKit.Below w.heap.size w w' := by
  have hn : n ≤ 9223372036854775807 := by simp only [maxLen] at hm; omega
  have hDt := hD.take (min n 60) (by omega)
  have hDb2 : ∀ b ∈ D.take (min n 60), b < 18446744073709551616 := fun b hb => hDb b (List.mem_of_mem_take hb)
  generalize D.take (min n 60) = E at hDt hDb2
  have hm60 : min n 60 ≤ 60 := by omega
  have HF := Lib.hid (few_any A n c hc hn w)
  clear hD hDb hc hm
  generalize min n 60 = m at *
  go_enter Try.func5, Try.ntmps5
  go_wp2_with fail
  refine HF.out.mono ?_
  rintro e w0 ⟨c', rfl, hc', rfl⟩
  have hG := gap_any A m c' E hDb2 w hDt (by omega)
  have hl : (srt E).length = (tms E).length := (srt_perm E).length_eq
  have hN := gap_num (is_gapR (tms_nm hDb2))
  rw [gap_eq hDb2, hl] at hG
  have HL := Lib.hid hl
  clear hl
  go_wp2_with fail
  refine hG.mono ?_
  rintro e w1 ⟨rfl, b1⟩
  clear hG
  go_wp2_with fail
  refine (gapR_any A m c' E w1 ((hDt.later b1).more b1.size) (by omega)).mono ?_
  rintro e w2 ⟨rfl, b2⟩
  generalize gapR (tms E) = g at *
  generalize decide ((1 : Int) < ((tms E).length : Int)) = is at *
  have b12 := b1.trans (b2.mono b1.size)
  clear b1 b2
  go_wp2_with fail
  refine (awake_any w2).mono ?_
  rintro e w3 ⟨rfl, b3⟩
  have b123 := b12.trans (b3.mono b12.size)
  clear b12 b3
  go_wp2_with fail
  refine (float_any g g w3).mono ?_
  rw [sameF_self hN]
  rintro e w4 ⟨rfl, rfl⟩
  cases is
  all_goals
    go_wp2
    go_ret
    exact ⟨rfl, b123⟩

set_option maxHeartbeats 800000 in
set_option maxRecDepth 100000 in
theorem gaps_lifted (os : Os) (started : os.Started) (H : Type) (enc : TypeId × Value → H) :
    ReturnsInHanded {} Try.checked os 5 .any (Rows.windowGapsSpec.pre6 enc Try.prog Try.f5 Rows.windowGapsRow.domain false) (Rows.windowGapsSpec.post enc Try.prog Try.f5 false true false false) := by
  refine returnsInHanded_of_change (C := Try.checked) own started (by kernel_rfl) Try.func5
    (ChangeSpec.witness6 (enc := enc) (C := Try.checked) false ⟨#[], #[.slice none 0 0], []⟩ 8 (by kernel_rfl) (by kernel_rfl) (by kernel_rfl) (by kernel_rfl)) ?_
  intro W base args ds gs before hval0 hW _ _
  have hval : ∀ (j : Nat) t v, Try.f5.params[j]? = some t → args[j]? = some v → Value.okWide Try.prog W .any base t v := hval0
  have hW' := hW
  obtain ⟨p, q, hA0, hV, rfl, _, _⟩ := hW
  have hA : DataW.TrodAll enc Try.prog W 0 (fun _ => true) true Try.f5.params.toList args.toList ds p := hA0
  rw [Try.params5] at hA hval
  obtain ⟨v0, d0, rfl, rfl, h0⟩ := trodAll_one hA
  obtain ⟨rfl, rfl⟩ := trodVars_none hV
  obtain ⟨a0, len, cap, rfl⟩ := okWide_slice Try.underlying22 (hval 0 22 v0 rfl rfl)
  have h0k := h0
  obtain ⟨fuel, hf⟩ := h0
  clear hA0 hval0
  simp only [List.append_nil] at hW'
  have hlt : ∀ y ∈ p, y.block < W.heap.size := fun y hy => by simpa using hW'.lt y (by simp [hy])
  obtain ⟨D, hD, hDb, hlc, hcm⟩ := open_hist (by simpa [Value.cells] using hf)
  refine (gaps_law a0 len cap D hDb hlc hcm W hD).mono fun e W' ⟨he, hb⟩ => ?_
  subst he
  exact ⟨_, rfl, _, _, _, [], _, [], hW', trodAll_mk1 (shut_bool Try.underlying4 _), trodAll_mk1 (Below.trod laidOut (by kernel_rfl) (of_decide_eq_true (by kernel_rfl)) h0k hb hlt), rfl, hb.frame _, fun h => by cases h⟩

theorem window_gaps : Rows.WindowGapsSaid :=
  OpenClaim.holds_of_wide 5 Try.f5 rfl rfl rfl rfl rfl rfl rfl ⟨rfl, rfl, rfl, rfl, rfl⟩ rfl rfl rfl rfl rfl (by kernel_rfl) Try.func5 (by kernel_rfl)
    (of_decide_eq_true (by kernel_rfl)) (by unfold Func.isWrapper; first | (rw [if_pos (by decide +kernel)]; kernel_rfl) | (rw [if_neg (by decide +kernel)]; exact ⟨rfl, rfl⟩))
    (fun os started H enc _ => gaps_lifted os started H enc)

#print axioms window_gaps
end Go.Proofs.Ytgabaljmepgeiaa
