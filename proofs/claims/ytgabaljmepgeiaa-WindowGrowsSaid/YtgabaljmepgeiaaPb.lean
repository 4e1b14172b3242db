/-
  What both Parts come to, and whether two lists of whole numbers are the same.
  No conditions but that what is handed in is read, its floats words of 64 bits.
-/
import Derived.Test.YtgabaljmepgeiaaPa
namespace Go.Proofs.Ytgabaljmepgeiaa
open Go.RowKit

/-- A slice of whole numbers that reads as a list. -/
def RowI (w : World) (A : Option Addr) (m : Nat) (L : List Nat) : Prop :=
  L.length = m ∧ (0 < m → ∃ g, A = some ⟨g, 0, none⟩ ∧ g < w.heap.size ∧ ∀ i, i < m → w.cell? ⟨g, i, none⟩ = some (.int .i64 ((L[i]?.getD 0 : Nat) : Int)))

theorem RowI.later {w w' : World} {A : Option Addr} {m : Nat} {L : List Nat} (h : RowI w A m L) (hb : RowKit.Below w.heap.size w w') : RowI w' A m L :=
  ⟨h.1, fun hp => by
    obtain ⟨g, rfl, hg, hc⟩ := h.2 hp
    exact ⟨g, rfl, by have := hb.size; omega, fun i hi => (hb.cell (p := ⟨g, i, none⟩) hg).trans (hc i hi)⟩⟩

abbrev leF (x a : Nat) : Bool := fo x a == some .lt || fo x a == some .eq

/-- Are there such parts? -/
def badP (fr wd : Nat) : Bool := !finB fr || !finB wd || leF wd 0

/-- How many of T lie in each part; and an error. -/
def partsL (T : List Nat) (fr wd : Nat) (n : Int) : List Nat × Int :=
  if badP fr wd then ([], 7) else if n < 0 ∨ 64 < n then ([], 2) else ((List.range n.toNat).map fun i => T.countP fun t => inP fr wd t i, 0)

theorem le_zero {wd : Nat} (h : leF wd 0 = false) (hf : finB wd = true) : rung wd < 9218868437227405312 ∧ 0 < rung wd := by
  have h1 : rung wd < 9218868437227405312 := by simpa [finB] using hf
  refine ⟨h1, ?_⟩
  rcases Nat.eq_zero_or_pos (rung wd) with h0 | h0
  · have hn : isNum wd = true := by simp [isNum]; omega
    have hr : rk wd = rk 0 := by
      have : rk 0 = 0 := by decide
      rw [this]; unfold rk; rw [h0]; split <;> rfl
    have := fo_eq hn (show isNum 0 = true by decide)
    unfold leF at h
    rw [this, hr] at h
    simp at h
  · exact h0

theorem info3 : (Try.prog.info? 3).map (fun i => (i.zero, i.size, i.bytes)) = some (some (.int .i64 0), 1, 8) := by kernel_rfl

theorem made_arr (n : Nat) : madeCells (Value.int .i64 0).cells (n * 1) = arr n fun _ => 0 := by
  apply Array.ext
  · simp [size_madeCells, arr]
  · intro i h1 h2
    simp [madeCells, arr, Value.cells, Nat.mod_one]

theorem run_make_ints (n : Nat) (hn : n ≤ 64) (w : World) : (Instr.makeSlice 32 (.int .i64 (n : Int)) (.int .i64 (n : Int))).run Try.prog w = .ok (.slice (some ⟨w.heap.size, 0, none⟩) n n) (w.alloc (.cells (arr n fun _ => 0) 3)) := by
  obtain ⟨i0, hi0, hz0, hz1, hz2⟩ := info_parts info3
  have h := run_make (P := Try.prog) w 32 3 i0 (.int .i64 0) Try.underlying32 hi0 hz0 .i64 .i64 n n (by omega) (by omega) (by rw [hz2]; omega) (by omega)
  rw [hz1, Int.toNat_natCast, made_arr] at h
  exact h

theorem grown_trans {a b c : World} {row : Option Nat} (h : a.grownBy b row) (k : b.grownBy c row) : a.grownBy c row :=
  ⟨k.os.trans h.os, k.tape.trans h.tape, k.output.trans h.output, Nat.le_trans h.size k.size, fun i hi hne => (k.block i (Nat.lt_of_lt_of_le hi h.size) hne).trans (h.block i hi hne)⟩

set_option maxHeartbeats 4000000 in
theorem parts_any (A : Option Addr) (n c fr wd : Nat) (m : Int) (D : List Nat) (hDb : ∀ b ∈ D, b < 18446744073709551616) (hfr : fr < 18446744073709551616) (hwd : wd < 18446744073709551616) (w : World) (hD : Hst w w.heap.size A n D) (hn : n ≤ 2932031007403) :
    Calls Try.prog 14 #[.slice A n c, .float .f64 fr, .float .f64 wd, .int .i64 m] w fun e w' => ∃ A' c', e = .returned (.tuple #[.slice A' (partsL (srt D) fr wd m).1.length c', .int .i64 (partsL (srt D) fr wd m).2]) ∧
      RowI w' A' (partsL (srt D) fr wd m).1.length (partsL (srt D) fr wd m).1 ∧ RowKit.Below w.heap.size w w' := by
  have hb2 : RowKit.Below w.heap.size w ((w.alloc (.cells #[.float .f64 fr] 23)).alloc (.cells #[.float .f64 wd] 23)) := ((RowKit.Below.refl _ _).alloc (Nat.le_refl _) _).alloc (by simp) _
  have nil : ∀ w', RowI w' none ([] : List Nat).length [] := fun w' => ⟨rfl, fun h => by simp at h⟩
  cases hb : badP fr wd with
  | true =>
    have e : partsL (srt D) fr wd m = ([], 7) := by unfold partsL; rw [hb]; rfl
    rw [e]
    unfold badP at hb
    clear hD
    cases h1 : finB fr with
    | false =>
      go_enter Try.func14, Try.ntmps14
      go_wp2_with (go_at_call 29; first | (refine (finite_any fr _ hfr).mono ?_; rw [h1]; rintro e w' ⟨rfl, rfl⟩))
      go_ret2
      exact ⟨none, 0, rfl, nil _, hb2⟩
    | true =>
      cases h2 : finB wd with
      | false =>
        go_enter Try.func14, Try.ntmps14
        go_wp2_with fail
        refine (finite_any fr _ hfr).mono ?_
        rw [h1]; rintro e w' ⟨rfl, rfl⟩
        go_wp2_with fail
        refine (finite_any wd _ hwd).mono ?_
        rw [h2]; rintro e w' ⟨rfl, rfl⟩
        go_wp2
        go_ret2
        exact ⟨none, 0, rfl, nil _, hb2⟩
      | true =>
        have h3 : leF wd 0 = true := by rw [h1, h2] at hb; simpa using hb
        clear hb
        go_enter Try.func14, Try.ntmps14
        go_wp2_with fail
        refine (finite_any fr _ hfr).mono ?_
        rw [h1]; rintro e w' ⟨rfl, rfl⟩
        go_wp2_with fail
        refine (finite_any wd _ hwd).mono ?_
        rw [h2]; rintro e w' ⟨rfl, rfl⟩
        go_wp2
        go_ret2
        exact ⟨none, 0, rfl, nil _, hb2⟩
  | false =>
    have h1 : finB fr = true := by unfold badP at hb; cases h : finB fr <;> simp [h] at hb ⊢
    have h2 : finB wd = true := by unfold badP at hb; cases h : finB wd <;> simp [h] at hb ⊢
    have h3 : leF wd 0 = false := by unfold badP at hb; rw [h1, h2] at hb; simpa using hb
    have HF1 := Lib.hid h1
    have HF2 := Lib.hid h2
    obtain ⟨r1, r2⟩ := le_zero h3 h2
    have r0 : rung fr < 9218868437227405312 := by simpa [finB] using h1
    clear h1 h2
    by_cases hm : m < 0
    · have e : partsL (srt D) fr wd m = ([], 2) := by unfold partsL; rw [hb, if_neg (by simp), if_pos (.inl hm)]
      rw [e]
      clear hD hb
      go_enter Try.func14, Try.ntmps14
      go_wp2_with fail
      refine (finite_any fr _ hfr).mono ?_
      rw [HF1.out]; rintro e w' ⟨rfl, rfl⟩
      go_wp2_with fail
      refine (finite_any wd _ hwd).mono ?_
      rw [HF2.out]; rintro e w' ⟨rfl, rfl⟩
      go_wp2
      go_ret2
      exact ⟨none, 0, rfl, nil _, hb2⟩
    · by_cases hm2 : 64 < m
      · have e : partsL (srt D) fr wd m = ([], 2) := by unfold partsL; rw [hb, if_neg (by simp), if_pos (.inr hm2)]
        rw [e]
        clear hD hb
        go_enter Try.func14, Try.ntmps14
        go_wp2_with fail
        refine (finite_any fr _ hfr).mono ?_
        rw [HF1.out]; rintro e w' ⟨rfl, rfl⟩
        go_wp2_with fail
        refine (finite_any wd _ hwd).mono ?_
        rw [HF2.out]; rintro e w' ⟨rfl, rfl⟩
        go_wp2
        go_ret2
        exact ⟨none, 0, rfl, nil _, hb2⟩
      · obtain ⟨p, rfl⟩ : ∃ p : Nat, m = (p : Int) := ⟨m.toNat, by omega⟩
        have hp : p ≤ 64 := by omega
        have e : partsL (srt D) fr wd p = ((List.range p).map fun i => (srt D).countP fun t => inP fr wd t i, 0) := by
          unfold partsL; rw [hb, if_neg (by simp), if_neg (by omega), Int.toNat_natCast]
        rw [e]
        clear hb
        have hmk := fun w => run_make_ints p hp w
        have hmf : ∀ (fn : Fn) (first cap : Array Value) (w : World), (Instr.makeFunc fn first cap).run Try.prog w = .ok (.func fn first cap) w := fun _ _ _ _ => rfl
        have hcon : ∀ W, RowKit.Below w.heap.size w W → _ := fun W hW => times_row A n c D hDb w.heap.size w W hD hW hW.size hn
        have HC := Lib.hid hcon
        have HN := Lib.hid (fun x hx => (tms_nm hDb x ((srt_perm D).subset hx)).1)
        have hSn : (srt D).length ≤ n := srt_le hD.1
        clear hcon hD
        go_enter Try.func14, Try.ntmps14
        go_wp2_with fail
        refine (finite_any fr _ hfr).mono ?_
        rw [HF1.out]; rintro e w' ⟨rfl, rfl⟩
        go_wp2_with fail
        refine (finite_any wd _ hwd).mono ?_
        rw [HF2.out]; rintro e w' ⟨rfl, rfl⟩
        go_wp2_with fail
        have hbW : RowKit.Below w.heap.size w ((((w.alloc (.cells #[.float .f64 fr] 23)).alloc (.cells #[.float .f64 wd] 23)).alloc (.cells (arr p fun _ => 0) 3)).alloc (.cells #[.slice (some ⟨w.heap.size + 1 + 1, 0, none⟩) p p] 32)) :=
          (hb2.alloc (by simp; omega) _).alloc (by simp; omega) _
        have c1 : ((((w.alloc (.cells #[.float .f64 fr] 23)).alloc (.cells #[.float .f64 wd] 23)).alloc (.cells (arr p fun _ => 0) 3)).alloc (.cells #[.slice (some ⟨w.heap.size + 1 + 1, 0, none⟩) p p] 32)).cell? ⟨w.heap.size, 0, none⟩ = some (.float .f64 fr) := by
          rw [World.cell?_alloc_past _ _ _ (by simp; omega), World.cell?_alloc_past _ _ _ (by simp; omega), World.cell?_alloc_past _ _ _ (by simp)]; simp
        have c2 : ((((w.alloc (.cells #[.float .f64 fr] 23)).alloc (.cells #[.float .f64 wd] 23)).alloc (.cells (arr p fun _ => 0) 3)).alloc (.cells #[.slice (some ⟨w.heap.size + 1 + 1, 0, none⟩) p p] 32)).cell? ⟨w.heap.size + 1, 0, none⟩ = some (.float .f64 wd) := by
          rw [World.cell?_alloc_past _ _ _ (by simp), World.cell?_alloc_past _ _ _ (by simp), World.cell?_alloc_at _ _ _ _ (by simp)]; rfl
        have c3 : ((((w.alloc (.cells #[.float .f64 fr] 23)).alloc (.cells #[.float .f64 wd] 23)).alloc (.cells (arr p fun _ => 0) 3)).alloc (.cells #[.slice (some ⟨w.heap.size + 1 + 1, 0, none⟩) p p] 32)).cell? ⟨w.heap.size + 1 + 1 + 1, 0, none⟩ = some (.slice (some ⟨w.heap.size + 1 + 1, 0, none⟩) p p) := by
          rw [World.cell?_alloc_at _ _ _ _ (by simp)]; rfl
        have c4 : Blk ((((w.alloc (.cells #[.float .f64 fr] 23)).alloc (.cells #[.float .f64 wd] 23)).alloc (.cells (arr p fun _ => 0) 3)).alloc (.cells #[.slice (some ⟨w.heap.size + 1 + 1, 0, none⟩) p p] 32)) (w.heap.size + 1 + 1) (arr p fun _ => 0) := by
          refine (RowKit.Below.heap_alloc _ _ _ (by simp)).trans ?_
          have := heap_alloc_new ((w.alloc (.cells #[.float .f64 fr] 23)).alloc (.cells #[.float .f64 wd] 23)) (.cells (arr p fun _ => 0) 3)
          simpa using this
        have c5 : ((((w.alloc (.cells #[.float .f64 fr] 23)).alloc (.cells #[.float .f64 wd] 23)).alloc (.cells (arr p fun _ => 0) 3)).alloc (.cells #[.slice (some ⟨w.heap.size + 1 + 1, 0, none⟩) p p] 32)).heap.size = w.heap.size + 4 := by simp
        generalize ((((w.alloc (.cells #[.float .f64 fr] 23)).alloc (.cells #[.float .f64 wd] 23)).alloc (.cells (arr p fun _ => 0) 3)).alloc (.cells #[.slice (some ⟨w.heap.size + 1 + 1, 0, none⟩) p p] 32)) = W at hbW c1 c2 c3 c4 c5 ⊢
        refine (HC.out W hbW).mono ?_
        rintro e w1 ⟨A1, k1, rfl, hrow, hb1⟩
        obtain ⟨A2, k2, he, hk1, hn2, hcell⟩ := hrow
        cases he
        have d1 := (hb1.cell (p := ⟨w.heap.size, 0, none⟩) (by rw [c5]; simp)).trans c1
        have d2 := (hb1.cell (p := ⟨w.heap.size + 1, 0, none⟩) (by rw [c5]; simp)).trans c2
        have d3 := (hb1.cell (p := ⟨w.heap.size + 1 + 1 + 1, 0, none⟩) (by rw [c5]; simp)).trans c3
        have d4 : Blk w1 (w.heap.size + 1 + 1) (arr p fun _ => 0) := (hb1.block _ (by omega)).trans c4
        have HCell := Lib.hid hcell
        have HBl := Lib.hid (hbW.trans (hb1.mono (by omega)))
        have HD1 := Lib.hid d1
        have HD2 := Lib.hid d2
        have HD3 := Lib.hid d3
        have HD4 := Lib.hid d4
        have HC5 := Lib.hid c5
        clear c1 c2 c3 c4 c5 hcell hbW hb1 d1 d2 d3 d4 hmk hmf hb2 nil HC HF1 HF2
        generalize hTS : srt D = S at *
        have HTS := Lib.hid hTS
        clear hTS
        go_wp2
        go_loopw [40] (fun i wr => ∃ j : Nat, j ≤ S.length ∧ i = .int .i64 j ∧ w1.grownBy wr (some (w.heap.size + 1 + 1)) ∧ Blk wr (w.heap.size + 1 + 1) (arr p fun i => (S.take j).countP fun t => inP fr wd t i)) (fun i _ => S.length - (intOf i).toNat)
        case atStart => exact ⟨0, Nat.zero_le _, rfl, World.grownBy.refl _ _, HD4.out⟩
        case round =>
          obtain ⟨j, hj, rfl, hgr, hblk⟩ := hrel
          have HR := Lib.hid hgr
          have HB := Lib.hid hblk
          clear hgr hblk
          have k1' := HR.out.cell HD1.out (by simp; omega)
          have k2' := HR.out.cell HD2.out (by simp)
          have k3' := HR.out.cell HD3.out (by simp)
          by_cases hlt : j < S.length
          · obtain ⟨g, rfl, hB, hg, hcs⟩ := HCell.out (by omega)
            have h5 := HC5.out
            have hx := HR.out.cell (hcs j hlt) (by simp; omega)
            clear hcs
            have HX := Lib.hid (HN.out _ (getD_mem hlt))
            have HT := Lib.hid (show ∀ i, (S.take (j + 1)).countP (fun t => inP fr wd t i) = (S.take j).countP (fun t => inP fr wd t i) + if inP fr wd (S[j]?.getD 0) i then 1 else 0 from fun i => by rw [take_one S j hlt, List.countP_append, List.countP_singleton])
            generalize S[j]?.getD 0 = x at hx HX HT
            have HK := Lib.hid (parts1_any p fr wd x w.heap.size (w.heap.size + 1 + 1 + 1) (w.heap.size + 1) (w.heap.size + 1 + 1) S.length _ _ r0 r1 r2 HX.out hp (fun i => Nat.le_trans List.countP_le_length (List.length_take_le' _ _)) (by omega) k1' k3' k2' (by omega) (by omega) (by omega) HB.out)
            have HE := Lib.hid (arr_same p (bump fr wd x (fun i => (S.take j).countP fun t => inP fr wd t i) p) (fun i => (S.take (j + 1)).countP fun t => inP fr wd t i) (fun i hi => by
              show _ = bump _ _ _ _ _ _
              rw [HT.out i]
              unfold bump
              cases h : inP fr wd x i
              · simp
              · simp [hi]))
            clear h5
            go_wp2_with (go_at_call 30; refine HK.out.mono ?_; rintro e w' ⟨rfl, hg2, hb2⟩)
            go_roundw
            case rel => exact ⟨j + 1, by omega, by go_num, grown_trans HR.out hg2, by rw [← HE.out]; exact hb2⟩
            case measure => simp [intOf]; omega
          · have : j = S.length := by omega
            subst this
            go_wp2
            go_ret2
            refine ⟨some ⟨w.heap.size + 1 + 1, 0, none⟩, p, by simp, ⟨rfl, fun hp0 => ⟨_, rfl, HB.out.lt, fun i hi => ?_⟩⟩, ?_⟩
            · have hi' : i < p := by simpa using hi
              rw [HB.out.cell, arr_at _ _ _ hi', List.take_length, HTS.out]
              simp [hi']
            · exact HBl.out.grown HR.out (by have := HBl.out.size; omega) (fun k hk => by cases hk; omega)

end Go.Proofs.Ytgabaljmepgeiaa
