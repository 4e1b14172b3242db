/-
  WindowSpans answers true for every history and every distance, and leaves its arguments as they were.
  No conditions.
-/
import Derived.Test.YtgabaljmepgeiaaOp
import Derived.Test.YtgabaljmepgeiaaPn
namespace Go.Proofs.Ytgabaljmepgeiaa
open Go.ChangeShapes Go.WideShapes Go.ChangeAt Go.RowKit Go.Deep

set_option maxHeartbeats 2000000 in
theorem spans_law (A : Option Addr) (n c d : Nat) (D : List Nat) (hDb : ∀ b ∈ D, b < 18446744073709551616) (hc : n ≤ c) (hm : c ≤ maxLen) (w : World) (hD : Hst w w.heap.size A n D) :
    Calls Try.prog 8 #[.slice A n c, .float .f64 d] w fun e w' => e = .returned (.bool true) ∧ RowKit.Below w.heap.size w w' := by
  have hn : n ≤ 9223372036854775807 := by simp only [maxLen] at hm; omega
  have hDt := hD.take (min n 60) (by omega)
  have hDb2 : ∀ b ∈ D.take (min n 60), b < 18446744073709551616 := fun b hb => hDb b (List.mem_of_mem_take hb)
  generalize D.take (min n 60) = E at hDt hDb2
  have hm60 : min n 60 ≤ 60 := by omega
  have HF := Lib.hid (few_any A n c hc hn w)
  clear hD hDb hc hm
  generalize min n 60 = m at *
  go_enter Try.func8, Try.ntmps8
  go_wp2_with fail
  refine HF.out.mono ?_
  rintro e w0 ⟨c', rfl, hc', rfl⟩
  have hG := span_any A m c' E hDb2 w hDt (by omega)
  obtain ⟨s1, s2, s3⟩ := span_eq hDb2
  obtain ⟨n1, n2⟩ := span_num hDb2
  rw [s1] at n1
  rw [s2] at n2
  rw [s1, s2, s3] at hG
  clear s1 s2 s3
  have hSR := fun W (hb : RowKit.Below w.heap.size w W) => spanR_any A m c' E W ((hDt.later hb).more hb.size) (by omega)
  generalize spanTo (tms E) (tms E).length = g at *
  obtain ⟨lo, hi⟩ := g
  generalize decide ((0 : Int) < ((tms E).length : Int)) = is at *
  have HSR := Lib.hid hSR
  clear hSR
  go_wp2_with fail
  refine hG.mono ?_
  rintro e w1 ⟨rfl, b1⟩
  clear hG
  go_wp2_with fail
  refine (HSR.out w1 b1).mono ?_
  rintro e w2 ⟨rfl, b2⟩
  have b12 := b1.trans (b2.mono b1.size)
  clear b1 b2
  go_wp2_with fail
  refine (awake_any w2).mono ?_
  rintro e w3 ⟨rfl, b3⟩
  have b123 := b12.trans (b3.mono b12.size)
  clear b12 b3
  go_wp2_with fail
  refine (float_any lo lo w3).mono ?_
  rw [sameF_self n1]
  rintro e w4 ⟨rfl, rfl⟩
  go_wp2_with fail
  refine (float_any hi hi w3).mono ?_
  rw [sameF_self n2]
  rintro e w4 ⟨rfl, rfl⟩
  have his : (is == is) = true := by simp
  have hK := close_any A m c' d E hDb2 w3 ((hDt.later b123).more b123.size) (by omega)
  rw [close_eq hDb2] at hK
  have HK := Lib.hid hK
  clear hK
  have HR := Lib.hid (fun W (hb : RowKit.Below w3.heap.size w3 W) => closeR_any A m c' d E hDb2 W (((hDt.later b123).later (hb.mono b123.size)).more (by have := hb.size; have := b123.size; omega)) (by omega))
  generalize closeTo (tms E) (nearR d) (tms E).length = k at *
  have hk : ((k : Int) == (k : Int)) = true := by simp
  cases is
  all_goals
    go_wp2_with fail
    refine HK.out.mono ?_
    rintro e w5 ⟨rfl, b5⟩
    have b55 := b123.trans (b5.mono b123.size)
    go_wp2_with fail
    refine (HR.out w5 b5).mono ?_
    rintro e w6 ⟨rfl, b6⟩
    have b66 := b55.trans (b6.mono b55.size)
    clear b5 b55 b6
    go_wp2
    go_ret
    exact ⟨rfl, b66⟩

set_option maxHeartbeats 800000 in
set_option maxRecDepth 100000 in
theorem spans_lifted (os : Os) (started : os.Started) (H : Type) (enc : TypeId × Value → H) :
    ReturnsInHanded {} Try.checked os 8 .any (Rows.windowSpansSpec.pre6 enc Try.prog Try.f8 Rows.windowSpansRow.domain false) (Rows.windowSpansSpec.post enc Try.prog Try.f8 false true false false) := by
  refine returnsInHanded_of_change (C := Try.checked) own started (by kernel_rfl) Try.func8
    (ChangeSpec.witness6 (enc := enc) (C := Try.checked) false ⟨#[], #[.slice none 0 0, .float .f64 0], []⟩ 8 (by kernel_rfl) (by kernel_rfl) (by kernel_rfl) (by kernel_rfl)) ?_
  intro W base args ds gs before hval0 hW _ _
  have hval : ∀ (j : Nat) t v, Try.f8.params[j]? = some t → args[j]? = some v → Value.okWide Try.prog W .any base t v := hval0
  have hW' := hW
  obtain ⟨p, q, hA0, hV, rfl, _, _⟩ := hW
  have hA : DataW.TrodAll enc Try.prog W 0 (fun _ => true) true Try.f8.params.toList args.toList ds p := hA0
  rw [Try.params8] at hA hval
  obtain ⟨v0, v1, d0, d1, p0, p1, rfl, rfl, rfl, h0, h1⟩ := trodAll_two hA
  obtain ⟨rfl, rfl⟩ := trodVars_none hV
  have h1k := h1
  obtain ⟨x, rfl, rfl, rfl, wx⟩ := open_float Try.underlying23 (hval 1 23 v1 rfl rfl) h1
  obtain ⟨a0, len, cap, rfl⟩ := okWide_slice Try.underlying22 (hval 0 22 v0 rfl rfl)
  have h0k := h0
  obtain ⟨fuel, hf⟩ := h0
  clear hA0 hval0
  simp only [List.append_nil] at hW'
  have hlt : ∀ y ∈ p0, y.block < W.heap.size := fun y hy => by simpa using hW'.lt y (by simp [hy])
  obtain ⟨D, hD, hDb, hlc, hcm⟩ := open_hist (by simpa [Value.cells] using hf)
  refine (spans_law a0 len cap x D hDb hlc hcm W hD).mono fun e W' ⟨he, hb⟩ => ?_
  subst he
  exact ⟨_, rfl, _, _, _, [], _, [], hW', trodAll_mk1 (shut_bool Try.underlying4 _),
    trodAll_mk2 (Below.trod laidOut (by kernel_rfl) (of_decide_eq_true (by kernel_rfl)) h0k hb hlt) (Below.trod laidOut (by kernel_rfl) (of_decide_eq_true (by kernel_rfl)) h1k hb (fun y hy => by cases hy)),
    rfl, hb.frame _, fun h => by cases h⟩

theorem window_spans : Rows.WindowSpansSaid :=
  OpenClaim.holds_of_wide 8 Try.f8 rfl rfl rfl rfl rfl rfl rfl ⟨rfl, rfl, rfl, rfl, rfl⟩ rfl rfl rfl rfl rfl (by kernel_rfl) Try.func8 (by kernel_rfl)
    (of_decide_eq_true (by kernel_rfl)) (by unfold Func.isWrapper; first | (rw [if_pos (by decide +kernel)]; kernel_rfl) | (rw [if_neg (by decide +kernel)]; exact ⟨rfl, rfl⟩))
    (fun os started H enc _ => spans_lifted os started H enc)

#print axioms window_spans
end Go.Proofs.Ytgabaljmepgeiaa
