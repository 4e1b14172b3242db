/-
  WindowParts answers true for every history, every beginning, length and number of parts, and leaves its argument as it was.
  No conditions.
-/
import Derived.Test.YtgabaljmepgeiaaOp
import Derived.Test.YtgabaljmepgeiaaPn
import Derived.Lib.SmallJoins
namespace Go.Proofs.Ytgabaljmepgeiaa
open Go.ChangeShapes Go.WideShapes Go.ChangeAt Go.RowKit Go.Deep
open Go.Joins

set_option maxHeartbeats 2000000 in
theorem parts_law (A : Option Addr) (n c fr wd : Nat) (k : Int) (hfr : fr < 18446744073709551616) (hwd : wd < 18446744073709551616) (D : List Nat) (hDb : ∀ b ∈ D, b < 18446744073709551616) (hc : n ≤ c) (hm : c ≤ maxLen) (w : World) (hD : Hst w w.heap.size A n D) :
    Calls Try.prog 4 #[.agg #[.slice A n c, .float .f64 fr, .float .f64 wd, .int .i64 k]] w fun e w' => e = .returned (.bool true) ∧ RowKit.Below w.heap.size w w' := by
  have hn : n ≤ 9223372036854775807 := by simp only [maxLen] at hm; omega
  have hDt := hD.take (min n 60) (by omega)
  have hDb2 : ∀ b ∈ D.take (min n 60), b < 18446744073709551616 := fun b hb => hDb b (List.mem_of_mem_take hb)
  generalize D.take (min n 60) = E at hDt hDb2
  have hm60 : min n 60 ≤ 60 := by omega
  have HF := Lib.hid (few_any A n c hc hn)
  clear hD hDb hc hm
  generalize min n 60 = m at *
  have b0 : RowKit.Below w.heap.size w (w.alloc (.cells #[.slice A n c, .float .f64 fr, .float .f64 wd, .int .i64 k] 31)) := (RowKit.Below.refl _ _).alloc (Nat.le_refl _) _
  go_enter Try.func4, Try.ntmps4
  go_wp2
  go_quiet (fail)
  have b1 := below_drewN b0 nq
  clear b0
  go_wp2_with fail
  refine (HF.out _).mono ?_
  rintro e w0 ⟨c', rfl, hc', rfl⟩
  generalize (w.alloc (.cells #[.slice A n c, .float .f64 fr, .float .f64 wd, .int .i64 k] 31)).drewN nq = w1 at b1 ⊢
  have hP := parts_any A m c' fr wd k E hDb2 hfr hwd w1 ((hDt.later b1).more b1.size) (by omega)
  rw [parts_eq] at hP
  have HL := Lib.hid (show (partsL (tms E) fr wd k).1.length ≤ 64 by
    unfold partsL
    split
    · simp
    · split
      · simp
      · rename_i h; simp; omega)
  go_wp2_with fail
  refine hP.mono ?_
  rintro e w2 ⟨A2, c2, rfl, hr2, b2⟩
  clear hP
  have b12 := b1.trans (b2.mono b1.size)
  go_wp2_with fail
  refine (partsR_any A m c' fr wd k E hDb2 w2 ((hDt.later b12).more b12.size) (by omega)).mono ?_
  rintro e w3 ⟨A3, c3, rfl, hr3, b3⟩
  generalize partsL (tms E) fr wd k = pp at *
  obtain ⟨L, er⟩ := pp
  have b13 := b12.trans (b3.mono b12.size)
  have hr2' := hr2.later b3
  clear b1 b2 b12 b3 hr2
  go_wp2_with fail
  refine (awake_any w3).mono ?_
  rintro e w4 ⟨rfl, b4⟩
  have b14 := b13.trans (b4.mono b13.size)
  have hl : L.length ≤ 64 := HL.out
  go_wp2_with fail
  refine (ints_same A2 A3 L.length c2 c3 L (by omega) w4 (hr2'.later b4) (hr3.later b4)).mono ?_
  rintro e w5 ⟨rfl, q, rfl⟩
  have he : (er == er) = true := by simp
  clear b13 b4 hr2' hr3
  go_wp2
  go_ret
  exact ⟨rfl, below_drewN b14 q⟩

theorem cells31 : Try.prog.cellsOf 31 = 4 := by kernel_rfl

set_option maxHeartbeats 800000 in
set_option maxRecDepth 100000 in
theorem parts_lifted (os : Os) (started : os.Started) (H : Type) (enc : TypeId × Value → H) :
    ReturnsInHanded {} Try.checked os 4 .any (Rows.windowPartsSpec.pre6 enc Try.prog Try.f4 Rows.windowPartsRow.domain false) (Rows.windowPartsSpec.post enc Try.prog Try.f4 false true false false) := by
  refine returnsInHanded_of_change (C := Try.checked) own started (by kernel_rfl) Try.func4
    (ChangeSpec.witness6 (enc := enc) (C := Try.checked) false ⟨#[], #[.agg #[.slice none 0 0, .float .f64 0, .float .f64 0, .int .i64 0]], []⟩ 8 (by kernel_rfl) (by kernel_rfl) (by kernel_rfl) (by kernel_rfl)) ?_
  intro W base args ds gs before hval0 hW _ _
  have hval : ∀ (j : Nat) t v, Try.f4.params[j]? = some t → args[j]? = some v → Value.okWide Try.prog W .any base t v := hval0
  have hW' := hW
  obtain ⟨p, q, hA0, hV, rfl, _, _⟩ := hW
  have hA : DataW.TrodAll enc Try.prog W 0 (fun _ => true) true Try.f4.params.toList args.toList ds p := hA0
  rw [Try.params4] at hA hval
  obtain ⟨v0, d0, rfl, rfl, h0⟩ := trodAll_one hA
  obtain ⟨rfl, rfl⟩ := trodVars_none hV
  have h0k := h0
  obtain ⟨x0, x1, x2, x3, y0, y1, y2, y3, m, rfl, rfl, rfl, hy0, hy1, hy2, hy3⟩ := open_agg4 Try.underlying31 (by kernel_rfl) cells31 (hval 0 31 v0 rfl rfl) h0
  obtain ⟨fr, e1, _, wf1⟩ := trod_float Try.underlying23 hy1
  obtain ⟨wd, e2, _, wf2⟩ := trod_float Try.underlying23 hy2
  obtain ⟨k, e3, _, _⟩ := DataW.trod_int Try.underlying3 hy3
  simp at e1 e2 e3
  subst e1 e2 e3
  clear hA0 hval0
  simp only [List.append_nil] at hW'
  have hlt : ∀ y ∈ y0.2 ++ (y1.2 ++ (y2.2 ++ y3.2)), y.block < W.heap.size := fun y hy => by simpa using hW'.lt y (by simpa using hy)
  obtain ⟨a0, len, cap, rfl⟩ : ∃ a0 len cap, x0 = .slice a0 len cap := slice_of hy0
  obtain ⟨D, hD, hDb, hlc, hcm⟩ := open_hist hy0
  refine (parts_law a0 len cap fr wd k (by simpa [Lit.wf] using wf1) (by simpa [Lit.wf] using wf2) D hDb hlc hcm W hD).mono fun e W' ⟨he, hb⟩ => ?_
  subst he
  exact ⟨_, rfl, _, _, _, [], _, [], hW', trodAll_mk1 (shut_bool Try.underlying4 _), trodAll_mk1 (Below.trod laidOut (by kernel_rfl) (of_decide_eq_true (by kernel_rfl)) h0k hb hlt), rfl, hb.frame _, fun h => by cases h⟩

theorem window_parts : Rows.WindowPartsSaid :=
  OpenClaim.holds_of_wide 4 Try.f4 rfl rfl rfl rfl rfl rfl rfl ⟨rfl, rfl, rfl, rfl, rfl⟩ rfl rfl rfl rfl rfl (by kernel_rfl) Try.func4 (by kernel_rfl)
    (of_decide_eq_true (by kernel_rfl)) (by unfold Func.isWrapper; first | (rw [if_pos (by decide +kernel)]; kernel_rfl) | (rw [if_neg (by decide +kernel)]; exact ⟨rfl, rfl⟩))
    (fun os started H enc _ => parts_lifted os started H enc)

#print axioms window_parts
end Go.Proofs.Ytgabaljmepgeiaa
