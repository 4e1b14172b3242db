/-
  WindowOrder answers true for every history, turned round by however much, and every length; and leaves its arguments as they were.
  No conditions.
-/
import Derived.Test.YtgabaljmepgeiaaOr
namespace Go.Proofs.Ytgabaljmepgeiaa
open Go.ChangeShapes Go.WideShapes Go.ChangeAt Go.RowKit Go.Deep

set_option maxHeartbeats 4000000 in
set_option maxRecDepth 100000 in
theorem order_law (A : Option Addr) (n c t wd : Nat) (ht : t ≤ 255) (hwd : wd < 18446744073709551616) (D : List Nat) (hDb : ∀ b ∈ D, b < 18446744073709551616) (hc : n ≤ c) (hm : c ≤ maxLen) (w : World) (hD : Hst w w.heap.size A n D) :
    Calls Try.prog 6 #[.slice A n c, .int .u8 t, .float .f64 wd] w fun e w' => e = .returned (.bool true) ∧ RowKit.Below w.heap.size w w' := by
  have hn : n ≤ 9223372036854775807 := by simp only [maxLen] at hm; omega
  have hDt := hD.take (min n 60) (by omega)
  have hDb2 : ∀ b ∈ D.take (min n 60), b < 18446744073709551616 := fun b hb => hDb b (List.mem_of_mem_take hb)
  generalize D.take (min n 60) = E at hDt hDb2
  have hm60 : min n 60 ≤ 60 := by omega
  have HF := Lib.hid (few_any A n c hc hn w)
  clear hD hDb hc hm
  generalize min n 60 = m at *
  obtain ⟨i0, hi0, hz0, hz1, hz2⟩ := info_parts info46
  have HE := Lib.hid hDt.1
  have HDt := Lib.hid hDt
  clear hDt
  go_enter Try.func6, Try.ntmps6
  go_wp2_with fail
  refine HF.out.mono ?_
  rintro e w0 ⟨c', rfl, hc', rfl⟩
  go_wp2
  go_loopw [7, 8] (fun v i wr => ∃ (k : Nat) (xs : List Value), k ≤ m ∧ i = .int .i64 k ∧ wr.ownsRow w.heap.size 46 6 v k xs ∧ Evs xs k (rot E t k) ∧ RowKit.Below w.heap.size w wr) (fun _ i _ => m - (intOf i).toNat)
  case atStart => exact ⟨0, [], Nat.zero_le _, rfl, World.ownsRow_nil _ _ _ _, Evs.nil, RowKit.Below.refl _ _⟩
  case round =>
    obtain ⟨k, xs, hk, rfl, hown, hev, hb⟩ := hrel
    have hsz := hb.size
    by_cases hlt : k < m
    · have hr : (k + t) % m < m := Nat.mod_lt _ (by omega)
      obtain ⟨b, off, rfl, hbB, hcs⟩ := HDt.out.2 (by omega)
      obtain ⟨c1, c2, c3, c4, c5, h0, h1, h2, h3, h4, h5⟩ := hcs _ hr
      have h0 := (hb.cell (p := ⟨b, off + (k + t) % m * 6, none⟩) hbB).trans h0
      have h1 := (hb.cell (p := ⟨b, off + (k + t) % m * 6 + 1, none⟩) hbB).trans h1
      have h2 := (hb.cell (p := ⟨b, off + (k + t) % m * 6 + 2, none⟩) hbB).trans h2
      have h3 := (hb.cell (p := ⟨b, off + (k + t) % m * 6 + 3, none⟩) hbB).trans h3
      have h4 := (hb.cell (p := ⟨b, off + (k + t) % m * 6 + 4, none⟩) hbB).trans h4
      have h5 := (hb.cell (p := ⟨b, off + (k + t) % m * 6 + 5, none⟩) hbB).trans h5
      clear hcs
      have hkz : (k : Int) < (m : Int) := by omega
      have hq1 : (0 : Int) ≤ ((k : Int) + (t : Int)) % (m : Int) := Int.emod_nonneg _ (by omega)
      have hq2 : ((k : Int) + (t : Int)) % (m : Int) < (m : Int) := Int.emod_lt_of_pos _ (by omega)
      have HR := Lib.hid (rot_one E t k)
      have HEl := HE.out
      rw [HEl] at HR
      generalize E[(k + t) % m]?.getD 0 = x at h0 HR
      have HO := Lib.hid hown
      have HV := Lib.hid hev
      have HB := Lib.hid hb
      clear hown hev hb HEl
      go_wp2_with (at_builtin; refine wpList_append_own _ rfl _ _ 22 rfl w.heap.size 46 i0 (.agg #[.float .f64 0, .int .i64 0, .int .i64 0, .int .i64 0, .int .i64 0, .int .i64 0]) 6 48 Try.underlying22 hi0 hz0 hz1 hz2 rfl (by decide) _ k xs rfl (World.ownsRow.alloc HO.out _) ⟨wr.heap.size, 0, none⟩ 1 1 [.float .f64 x, .int .i64 c1, .int .i64 c2, .int .i64 c3, .int .i64 c4, .int .i64 c5] rfl rfl (cells_new _ _ _ _ (by simp)) (by simp [Value.oneCell']) (by simp only [maxLen]; omega) (by omega) (by simp; omega) ?_; intro v' w2 hown' hgrow _)
      go_roundw
      case rel => exact ⟨k + 1, xs ++ [.float .f64 x, .int .i64 c1, .int .i64 c2, .int .i64 c3, .int .i64 c4, .int .i64 c5], by omega, by go_num, hown', by rw [HR.out]; exact HV.out.snoc x c1 c2 c3 c4 c5, (HB.out.alloc (by omega) _).grown hgrow (by simp; omega) (fun j hj => by have := (HO.out.lt j hj).1; omega)⟩
      case measure => simp [intOf]; omega
    · have : k = m := by omega
      subst this
      obtain ⟨A2, c2, rfl, hk2, hH2⟩ := hst_of_own hown hev
      have hb0 := hb
      clear hown hev hsz
      have hp := rot_perm E t
      rw [HE.out] at hp
      have hDb3 : ∀ b ∈ rot E t k, b < 18446744073709551616 := fun b hb => hDb2 b (hp.subset hb)
      have hS := srt_of_perm hDb2 hp
      generalize rot E t k = F at hH2 hDb3 hS hp
      clear hp
      have H1 := HDt.out
      have hM1 : ∀ W, RowKit.Below w.heap.size w W → _ := fun W hW => most_any A k c' wd E hDb2 W ((H1.later hW).more hW.size) (by omega)
      have hM2 : ∀ W, RowKit.Below wr.heap.size wr W → _ := fun W hW => most_any A2 k c2 wd F hDb3 W ((hH2.later hW).more hW.size) (by omega)
      have hG1 : ∀ W, RowKit.Below w.heap.size w W → _ := fun W hW => gap_any A k c' E hDb2 W ((H1.later hW).more hW.size) (by omega)
      have hG2 : ∀ W, RowKit.Below wr.heap.size wr W → _ := fun W hW => gap_any A2 k c2 F hDb3 W ((hH2.later hW).more hW.size) (by omega)
      have hP1 : ∀ W, RowKit.Below w.heap.size w W → _ := fun W hW => parts_any A k c' 0 wd 8 E hDb2 (by omega) hwd W ((H1.later hW).more hW.size) (by omega)
      have hP2 : ∀ W, RowKit.Below wr.heap.size wr W → _ := fun W hW => parts_any A2 k c2 0 wd 8 F hDb3 (by omega) hwd W ((hH2.later hW).more hW.size) (by omega)
      have hN := (most_num hDb2 wd).1
      have hNg := gap_num (is_gapS (srt_rk hDb2) (srt_nm hDb2))
      have hL : (partsL (srt E) 0 wd 8).1.length ≤ 64 := by
        unfold partsL
        split
        · simp
        · split
          · simp
          · simp
      simp only [hS] at hM2 hG2 hP2
      generalize mostS (srt E) wd = p at *
      obtain ⟨pn, pa⟩ := p
      generalize gapS (srt E) = g at *
      generalize decide ((1 : Int) < ((srt E).length : Int)) = is at *
      generalize partsL (srt E) 0 wd 8 = pp at *
      obtain ⟨L, er⟩ := pp
      have hL : L.length ≤ 64 := hL
      have HM1 := Lib.hid hM1
      have HM2 := Lib.hid hM2
      have HG1 := Lib.hid hG1
      have HG2 := Lib.hid hG2
      have HP1 := Lib.hid hP1
      have HP2 := Lib.hid hP2
      clear hM1 hM2 hG1 hG2 hP1 hP2 H1 hH2 hS
      have hpn : ((pn : Int) == (pn : Int)) = true := by simp
      have hee : (er == er) = true := by simp
      go_wp2_with fail
      refine (HM1.out _ hb).mono ?_
      rintro e w1 ⟨rfl, b1⟩
      go_wp2_with fail
      refine (HM2.out _ b1).mono ?_
      rintro e w2 ⟨rfl, b2⟩
      have b2 := b1.trans (b2.mono b1.size)
      clear b1
      go_wp2_with fail
      refine (HG1.out _ (hb.trans (b2.mono hb.size))).mono ?_
      rintro e w3 ⟨rfl, b3⟩
      have b3 := b2.trans (b3.mono b2.size)
      clear b2
      go_wp2_with fail
      refine (HG2.out _ b3).mono ?_
      rintro e w4 ⟨rfl, b4⟩
      have b4 := b3.trans (b4.mono b3.size)
      clear b3
      go_wp2_with fail
      refine (HP1.out _ (hb.trans (b4.mono hb.size))).mono ?_
      rintro e w5 ⟨A5, k5, rfl, r5, b5⟩
      have b5 := b4.trans (b5.mono b4.size)
      clear b4
      go_wp2_with fail
      refine (HP2.out _ b5).mono ?_
      rintro e w6 ⟨A6, k6, rfl, r6, b6⟩
      have r5 := r5.later b6
      have b6 := b5.trans (b6.mono b5.size)
      clear b5
      go_wp2_with fail
      refine (awake_any _).mono ?_
      rintro e w7 ⟨rfl, b7⟩
      have r5 := r5.later b7
      have r6 := r6.later b7
      have b7 := b6.trans (b7.mono b6.size)
      clear b6
      go_wp2_with fail
      refine (float_any pa pa _).mono ?_
      rw [sameF_self hN]
      rintro e w8 ⟨rfl, rfl⟩
      go_wp2_with fail
      refine (float_any g g _).mono ?_
      rw [sameF_self hNg]
      rintro e w8 ⟨rfl, rfl⟩
      cases is
      all_goals
        go_wp2_with fail
        refine (ints_same A5 A6 L.length k5 k6 L (by omega) w7 r5 r6).mono ?_
        rintro e w9 ⟨rfl, q, rfl⟩
        go_wp2
        go_ret
        exact ⟨rfl, below_drewN (hb.trans (b7.mono hb.size)) q⟩

set_option maxHeartbeats 800000 in
set_option maxRecDepth 100000 in
theorem order_lifted (os : Os) (started : os.Started) (H : Type) (enc : TypeId × Value → H) :
    ReturnsInHanded {} Try.checked os 6 .any (Rows.windowOrderSpec.pre6 enc Try.prog Try.f6 Rows.windowOrderRow.domain false) (Rows.windowOrderSpec.post enc Try.prog Try.f6 false true false false) := by
  refine returnsInHanded_of_change (C := Try.checked) own started (by kernel_rfl) Try.func6
    (ChangeSpec.witness6 (enc := enc) (C := Try.checked) false ⟨#[], #[.slice none 0 0, .int .u8 0, .float .f64 0], []⟩ 8 (by kernel_rfl) (by kernel_rfl) (by kernel_rfl) (by kernel_rfl)) ?_
  intro W base args ds gs before hval0 hW _ _
  have hval : ∀ (j : Nat) t v, Try.f6.params[j]? = some t → args[j]? = some v → Value.okWide Try.prog W .any base t v := hval0
  have hW' := hW
  obtain ⟨p, q, hA0, hV, rfl, _, _⟩ := hW
  have hA : DataW.TrodAll enc Try.prog W 0 (fun _ => true) true Try.f6.params.toList args.toList ds p := hA0
  rw [Try.params6] at hA hval
  obtain ⟨v0, v1, v2, d0, d1, d2, p0, p1, p2, rfl, rfl, rfl, h0, h1, h2⟩ := trodAll_three hA
  obtain ⟨rfl, rfl⟩ := trodVars_none hV
  have h1k := h1
  have h2k := h2
  obtain ⟨t, rfl, rfl, rfl, wt⟩ := open_int Try.underlying5 (hval 1 5 v1 rfl rfl) h1
  obtain ⟨x, rfl, rfl, rfl, wx⟩ := open_float Try.underlying23 (hval 2 23 v2 rfl rfl) h2
  obtain ⟨a0, len, cap, rfl⟩ := okWide_slice Try.underlying22 (hval 0 22 v0 rfl rfl)
  have h0k := h0
  obtain ⟨fuel, hf⟩ := h0
  clear hA0 hval0
  simp only [List.append_nil] at hW'
  have hlt : ∀ y ∈ p0, y.block < W.heap.size := fun y hy => by simpa using hW'.lt y (by simp [hy])
  obtain ⟨D, hD, hDb, hlc, hcm⟩ := open_hist (by simpa [Value.cells] using hf)
  have ht : 0 ≤ t ∧ t ≤ 255 := by simpa [Lit.wf, IntKind.min, IntKind.max, IntKind.signed, IntKind.bits] using wt
  obtain ⟨tn, rfl⟩ : ∃ tn : Nat, t = (tn : Int) := ⟨t.toNat, by omega⟩
  refine (order_law a0 len cap tn x (by omega) (by simpa [Lit.wf] using wx) D hDb hlc hcm W hD).mono fun e W' ⟨he, hb⟩ => ?_
  subst he
  exact ⟨_, rfl, _, _, _, [], _, [], hW', trodAll_mk1 (shut_bool Try.underlying4 _),
    trodAll_mk3 (Below.trod laidOut (by kernel_rfl) (of_decide_eq_true (by kernel_rfl)) h0k hb hlt) (Below.trod laidOut (by kernel_rfl) (of_decide_eq_true (by kernel_rfl)) h1k hb (fun y hy => by cases hy)) (Below.trod laidOut (by kernel_rfl) (of_decide_eq_true (by kernel_rfl)) h2k hb (fun y hy => by cases hy)),
    rfl, hb.frame _, fun h => by cases h⟩

theorem window_order : Rows.WindowOrderSaid :=
  OpenClaim.holds_of_wide 6 Try.f6 rfl rfl rfl rfl rfl rfl rfl ⟨rfl, rfl, rfl, rfl, rfl⟩ rfl rfl rfl rfl rfl (by kernel_rfl) Try.func6 (by kernel_rfl)
    (of_decide_eq_true (by kernel_rfl)) (by unfold Func.isWrapper; first | (rw [if_pos (by decide +kernel)]; kernel_rfl) | (rw [if_neg (by decide +kernel)]; exact ⟨rfl, rfl⟩))
    (fun os started H enc _ => order_lifted os started H enc)

#print axioms window_order
end Go.Proofs.Ytgabaljmepgeiaa
