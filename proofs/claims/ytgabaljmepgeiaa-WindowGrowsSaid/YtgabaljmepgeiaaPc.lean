/-
  What the reference's Parts comes to, and whether two lists of whole numbers are the same.
  No conditions but that what is handed in is read, its floats words of 64 bits.
-/
import Derived.Test.YtgabaljmepgeiaaPb
namespace Go.Proofs.Ytgabaljmepgeiaa
open Go.RowKit

abbrev ints (L : List Nat) : List Value := L.map fun x : Nat => Value.int .i64 (x : Int)

theorem rowI_of_own {w : World} {B : Nat} {A : Option Addr} {n c : Nat} {L : List Nat} (h : w.ownsRow B 3 1 (.slice A n c) n (ints L)) : L.length = n ∧ RowI w A n L := by
  have hl : L.length = n := by simpa using h.1
  refine ⟨hl, hl, fun hp => ?_⟩
  rcases h.2 with ⟨_, h0⟩ | ⟨g, cap, cur, hv, hB, hg, hc, _⟩
  · omega
  · cases hv
    refine ⟨g, rfl, (Array.getElem?_eq_some_iff.1 hg).1, fun i hi => ?_⟩
    have := h.cells (g := g) rfl i (.int .i64 ((L[i]?.getD 0 : Nat) : Int)) (by simp [ints, List.getElem?_map, List.getElem?_eq_getElem (show i < L.length by omega)])
    rwa [show (⟨g, 0, none⟩ : Addr).add i = ⟨g, i, none⟩ from by unfold Addr.add; split <;> simp_all] at this

theorem quiet_number (a : Nat) (w : World) : Calls Try.prog 31 #[.float .f64 a] w fun e w' => e = .returned (.bool (finB a)) ∧ ∃ n, w' = w.drewN n :=
  (number_any a w).mono fun _ _ ⟨he, n, hn⟩ => ⟨he, n, hn.symm⟩

set_option maxHeartbeats 4000000 in
theorem partsR_any (A : Option Addr) (n c fr wd : Nat) (m : Int) (D : List Nat) (hDb : ∀ b ∈ D, b < 18446744073709551616) (w : World) (hD : Hst w w.heap.size A n D) (hn : n ≤ 2932031007403) :
    Calls Try.prog 15 #[.slice A n c, .float .f64 fr, .float .f64 wd, .int .i64 m] w fun e w' => ∃ A' c', e = .returned (.tuple #[.slice A' (partsL (tms D) fr wd m).1.length c', .int .i64 (partsL (tms D) fr wd m).2]) ∧
      RowI w' A' (partsL (tms D) fr wd m).1.length (partsL (tms D) fr wd m).1 ∧ RowKit.Below w.heap.size w w' := by
  have nil : ∀ w', RowI w' none ([] : List Nat).length [] := fun w' => ⟨rfl, fun h => by simp at h⟩
  have hb2 : RowKit.Below w.heap.size w w := RowKit.Below.refl _ _
  cases hb : badP fr wd with
  | true =>
    have e : partsL (tms D) fr wd m = ([], 7) := by unfold partsL; rw [hb]; rfl
    rw [e]
    unfold badP at hb
    clear hD
    cases h1 : finB fr with
    | false =>
      go_enter Try.func15, Try.ntmps15
      go_wp2_with fail
      refine (number_any fr _).mono ?_
      rw [h1]; rintro e w' ⟨rfl, q1, rfl⟩
      go_wp2
      go_ret2
      exact ⟨none, 0, rfl, nil _, below_drewN hb2 _⟩
    | true =>
      cases h2 : finB wd with
      | false =>
        go_enter Try.func15, Try.ntmps15
        go_wp2_with fail
        refine (number_any fr _).mono ?_
        rw [h1]; rintro e w' ⟨rfl, q1, rfl⟩
        go_wp2_with fail
        refine (number_any wd _).mono ?_
        rw [h2]; rintro e w' ⟨rfl, q2, rfl⟩
        go_wp2
        go_ret2
        exact ⟨none, 0, rfl, nil _, below_drewN hb2 _⟩
      | true =>
        have h3 : leF wd 0 = true := by rw [h1, h2] at hb; simpa using hb
        clear hb
        go_enter Try.func15, Try.ntmps15
        go_wp2_with fail
        refine (number_any fr _).mono ?_
        rw [h1]; rintro e w' ⟨rfl, q1, rfl⟩
        go_wp2_with fail
        refine (number_any wd _).mono ?_
        rw [h2]; rintro e w' ⟨rfl, q2, rfl⟩
        go_wp2
        go_ret2
        exact ⟨none, 0, rfl, nil _, below_drewN hb2 _⟩
  | false =>
    have h1 : finB fr = true := by unfold badP at hb; cases h : finB fr <;> simp [h] at hb ⊢
    have h2 : finB wd = true := by unfold badP at hb; cases h : finB wd <;> simp [h] at hb ⊢
    have h3 : leF wd 0 = false := by unfold badP at hb; rw [h1, h2] at hb; simpa using hb
    have HF1 := Lib.hid h1
    have HF2 := Lib.hid h2
    obtain ⟨r1, r2⟩ := le_zero h3 h2
    have r0 : rung fr < 9218868437227405312 := by simpa [finB] using h1
    clear h1 h2
    by_cases hm : m < 0
    · have e : partsL (tms D) fr wd m = ([], 2) := by unfold partsL; rw [hb, if_neg (by simp), if_pos (.inl hm)]
      rw [e]
      clear hD hb
      go_enter Try.func15, Try.ntmps15
      go_wp2_with fail
      refine (number_any fr _).mono ?_
      rw [HF1.out]; rintro e w' ⟨rfl, q1, rfl⟩
      go_wp2_with fail
      refine (number_any wd _).mono ?_
      rw [HF2.out]; rintro e w' ⟨rfl, q2, rfl⟩
      go_wp2
      go_ret2
      exact ⟨none, 0, rfl, nil _, below_drewN hb2 _⟩
    · by_cases hm2 : 64 < m
      · have e : partsL (tms D) fr wd m = ([], 2) := by unfold partsL; rw [hb, if_neg (by simp), if_pos (.inr hm2)]
        rw [e]
        clear hD hb
        go_enter Try.func15, Try.ntmps15
        go_wp2_with fail
        refine (number_any fr _).mono ?_
        rw [HF1.out]; rintro e w' ⟨rfl, q1, rfl⟩
        go_wp2_with fail
        refine (number_any wd _).mono ?_
        rw [HF2.out]; rintro e w' ⟨rfl, q2, rfl⟩
        go_wp2
        go_ret2
        exact ⟨none, 0, rfl, nil _, below_drewN hb2 _⟩
      · obtain ⟨p, rfl⟩ : ∃ p : Nat, m = (p : Int) := ⟨m.toNat, by omega⟩
        have hp : p ≤ 64 := by omega
        have e : partsL (tms D) fr wd p = ((List.range p).map fun i => (tms D).countP fun t => inP fr wd t i, 0) := by
          unfold partsL; rw [hb, if_neg (by simp), if_neg (by omega), Int.toNat_natCast]
        rw [e]
        clear hb e
        have hcon : ∀ W, RowKit.Below w.heap.size w W → _ := fun W hW => timesR_row A n c D w.heap.size w W hD hW hW.size hn
        have HC := Lib.hid hcon
        have HN := Lib.hid (fun x hx => (tms_nm hDb x hx).1)
        have hSn : (tms D).length ≤ n := by have h1 := List.length_filterMap_le nrm D; have h2 := hD.1; unfold tms; omega
        obtain ⟨i0, hi0, hz0, hz1, hz2⟩ := info_parts info3
        clear hcon hD hb2 nil
        go_enter Try.func15, Try.ntmps15
        go_wp2_with fail
        refine (number_any fr _).mono ?_
        rw [HF1.out]; rintro e w' ⟨rfl, q1, rfl⟩
        go_wp2_with fail
        refine (number_any wd _).mono ?_
        rw [HF2.out]; rintro e w' ⟨rfl, q2, rfl⟩
        go_wp2_with fail
        refine (HC.out _ (below_drewN (RowKit.Below.refl _ _) _)).mono ?_
        rintro e w1 ⟨A1, k1, rfl, hrow, hb1⟩
        obtain ⟨A2, k2, he, hk1, hn2, hcell⟩ := hrow
        cases he
        have HBl := Lib.hid ((below_drewN (RowKit.Below.refl w.heap.size w) (q1 + q2)).trans hb1)
        have HCell := Lib.hid hcell
        clear hcell hb1 HF1 HF2 HC
        generalize hTS : tms D = S at *
        have HTS := Lib.hid hTS
        clear hTS
        have hgl : ∀ (k : Nat), ((List.range k).map fun i => S.countP fun t => inP fr wd t i).length = k := fun k => by simp
        have HGL := Lib.hid hgl
        clear hgl
        go_wp2
        go_loopw [11, 12] (fun v i wr => ∃ k : Nat, k ≤ p ∧ i = .int .i64 k ∧ wr.ownsRow w1.heap.size 3 1 v k (ints ((List.range k).map fun i => S.countP fun t => inP fr wd t i)) ∧ RowKit.Below w1.heap.size w1 wr) (fun _ i _ => p - (intOf i).toNat)
        case atStart => exact ⟨0, Nat.zero_le _, rfl, World.ownsRow_nil _ _ _ _, RowKit.Below.refl _ _⟩
        case round =>
          obtain ⟨i, hi, rfl, hown, hbr⟩ := hrel
          have hsz := hbr.size
          by_cases hlt : i < p
          · have hiz : (i : Int) < (p : Int) := by omega
            have HO := Lib.hid hown
            have HBr := Lib.hid hbr
            clear hown hbr
            go_wp2
            go_loopw [13, 14] (fun s j wr2 => ∃ k q : Nat, k ≤ S.length ∧ j = .int .i64 k ∧ s = .int .i64 (((S.take k).countP fun t => inP fr wd t i : Nat) : Int) ∧ wr2 = wr.drewN q) (fun _ j _ => S.length - (intOf j).toNat)
            case atStart => exact ⟨0, 0, Nat.zero_le _, rfl, rfl, rfl⟩
            case round =>
              obtain ⟨k, q, hk, rfl, rfl, rfl⟩ := hrel
              have hle : ((S.take k).countP fun t => inP fr wd t i) ≤ k := Nat.le_trans List.countP_le_length (List.length_take_le _ _)
              by_cases hlt2 : k < S.length
              · obtain ⟨g, rfl, hB, hg, hcs⟩ := HCell.out (by omega)
                have h0 := (HBr.out.cell (p := ⟨g, k, none⟩) hg).trans (hcs k hlt2)
                have HX := Lib.hid (HN.out _ (getD_mem hlt2))
                have HT := Lib.hid (show ((S.take (k + 1)).countP fun t => inP fr wd t i) = ((S.take k).countP fun t => inP fr wd t i) + if inP fr wd (S[k]?.getD 0) i then 1 else 0 by rw [take_one S k hlt2, List.countP_append, List.countP_singleton])
                clear hcs
                generalize S[k]?.getD 0 = x at h0 HX HT
                generalize ((S.take k).countP fun t => inP fr wd t i) = cn at hle HT
                have hs := fun w => run_sub_i (P := Try.prog) r0 HX.out w
                have hm1 := fun w => run_mul_i (P := Try.prog) r1 r2 i w
                have hm2 := fun w => run_mul_i (P := Try.prog) r1 r2 (i + 1) w
                rw [show ((i + 1 : Nat) : Int) = (i : Int) + 1 from by omega] at hm2
                have HI := Lib.hid (show inP fr wd x i = (geF (subI fr x) (mulI wd i) && ltF (subI fr x) (mulI wd (i + 1))) from rfl)
                have hkz : (k : Int) < (S.length : Int) := by omega
                generalize subI fr x = dd at HI hs
                generalize mulI wd i = lo at hm1 HI
                generalize mulI wd (i + 1) = hi' at hm2 HI
                cases hc1 : geF dd lo with
                | false =>
                  have HE := Lib.hid (show inP fr wd x i = false by rw [HI.out, hc1]; rfl)
                  go_wp2
                  go_roundw
                  case rel => exact ⟨k + 1, _, by omega, by go_num, by rw [HT.out, HE.out]; rfl, rfl⟩
                  case measure => simp [intOf]; omega
                | true =>
                  cases hc2 : ltF dd hi' with
                  | false =>
                    have HE := Lib.hid (show inP fr wd x i = false by rw [HI.out, hc1, hc2]; rfl)
                    go_wp2
                    go_roundw
                    case rel => exact ⟨k + 1, _, by omega, by go_num, by rw [HT.out, HE.out]; rfl, rfl⟩
                    case measure => simp [intOf]; omega
                  | true =>
                    have HE := Lib.hid (show inP fr wd x i = true by rw [HI.out, hc1, hc2]; rfl)
                    go_wp2
                    go_roundw
                    case rel => exact ⟨k + 1, _, by omega, by go_num, by rw [HT.out, HE.out]; go_num, rfl⟩
                    case measure => simp [intOf]; omega
              · have : k = S.length := by omega
                subst this
                have HL := Lib.hid (show ((S.take S.length).countP fun t => inP fr wd t i) = S.countP fun t => inP fr wd t i by rw [List.take_length])
                generalize ((S.take S.length).countP fun t => inP fr wd t i) = cn at hle HL ⊢
                go_wp2_with (at_builtin; refine wpList_append_own _ rfl _ _ 32 rfl w1.heap.size 3 i0 (.int .i64 0) 1 8 Try.underlying32 hi0 hz0 hz1 hz2 rfl (by decide) _ i (ints ((List.range i).map fun i => S.countP fun t => inP fr wd t i)) rfl (World.ownsRow.alloc (w := wr.drewN q) HO.out _) ⟨wr.heap.size, 0, none⟩ 1 1 [.int .i64 (cn : Int)] rfl rfl (cell_one_at _ _ _ _ (by simp)) (by simp [Value.oneCell']) (by simp only [maxLen]; omega) (by omega) (by simp; omega) ?_; intro v' w2 hown' hgrow _)
                go_roundw
                case rel => exact ⟨i + 1, by omega, by go_num, by rw [List.range_succ, List.map_append]; rw [HL.out] at hown'; simpa [ints] using hown', ((below_drewN HBr.out q).alloc (by simpa using hsz) _).grown hgrow (by simp; omega) (fun j hj => by have := (HO.out.lt j hj).1; omega)⟩
                case measure => simp [intOf]; omega
          · have : i = p := by omega
            subst this
            have hr : ∃ A2 c2, u11 = .slice A2 i c2 := by
              rcases hown.2 with ⟨h, h0⟩ | ⟨g, cap, cur, h, _⟩
              · exact ⟨none, 0, by rw [h, h0]⟩
              · exact ⟨_, cap, h⟩
            obtain ⟨A2, c2, rfl⟩ := hr
            have HR := Lib.hid (rowI_of_own hown)
            have HB3 := Lib.hid (HBl.out.trans (hbr.mono HBl.out.size))
            clear hown hbr
            go_wp2
            go_ret2
            rw [HTS.out]
            refine ⟨A2, c2, by rw [HGL.out]; rfl, by rw [HGL.out]; exact HR.out.2, HB3.out⟩

end Go.Proofs.Ytgabaljmepgeiaa
