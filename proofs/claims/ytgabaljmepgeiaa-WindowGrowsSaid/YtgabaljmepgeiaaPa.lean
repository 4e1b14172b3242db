/-
  The closure of Parts: of each part of time whether a time lies in it, counted on.
  No conditions but that what it has captured is read, and that the part's length is a number above 0.
-/
import Derived.Test.YtgabaljmepgeiaaRc
namespace Go.Proofs.Ytgabaljmepgeiaa
open Go.RowKit

open Ieee in
theorem mul_some {x w : Nat} (hx : isNum x = true) (hw : rung w < 9218868437227405312) (h0 : 0 < rung w) : ∃ r, double.mul x w = some r := by
  obtain ⟨m, e, hr, hv⟩ := read_num hw
  have hm : m ≠ 0 := by
    rintro rfl
    have := val_mono h0
    simp at hv
    omega
  have hx' : rung x ≤ 9218868437227405312 := by simpa [isNum] using hx
  unfold Format.mul
  rw [hr]
  by_cases h1 : rung x < 9218868437227405312
  · obtain ⟨n, f, hs, _⟩ := read_num h1
    rw [hs]; exact ⟨_, rfl⟩
  · rw [read_inf (show rung x = 9218868437227405312 by omega)]
    simp [Datum.product, hm]

open Ieee in
theorem sub_some {x w : Nat} (hx : isNum x = true) (hw : rung w < 9218868437227405312) : ∃ r, double.sub x w = some r := by
  obtain ⟨m, e, hr, hv⟩ := read_num hw
  have hx' : rung x ≤ 9218868437227405312 := by simpa [isNum] using hx
  unfold Format.sub
  rw [hr]
  by_cases h1 : rung x < 9218868437227405312
  · obtain ⟨n, f, hs, _⟩ := read_num h1
    rw [hs]; exact ⟨_, rfl⟩
  · rw [read_inf (show rung x = 9218868437227405312 by omega)]
    exact ⟨_, rfl⟩

theorem ofInt_num (n : Int) : isNum (floatOfInt .f64 n) = true := nearest_num _ _ _

/-- 'i w', as floats are multiplied. -/
def mulI (wd i : Nat) : Nat := (Ieee.double.mul (floatOfInt .f64 (i : Int)) wd).getD 0
/-- 't - from'. -/
def subI (fr t : Nat) : Nat := (Ieee.double.sub t fr).getD 0
/-- Does t lie in part i? -/
def inP (fr wd t i : Nat) : Bool := geF (subI fr t) (mulI wd i) && ltF (subI fr t) (mulI wd (i + 1))

theorem run_mul_i {P : Program} {wd : Nat} (h1 : rung wd < 9218868437227405312) (h2 : 0 < rung wd) (i : Nat) (w : World) :
    (binOp .mul 23 (.float .f64 (floatOfInt .f64 (i : Int))) (.float .f64 wd)).run P w = .ok (.float .f64 (mulI wd i)) w := by
  obtain ⟨r, hr⟩ := mul_some (ofInt_num i) h1 h2
  unfold mulI
  rw [hr]
  exact run_float_arith w .mul 23 .f64 _ _ r hr

theorem run_sub_i {P : Program} {fr t : Nat} (h1 : rung fr < 9218868437227405312) (ht : isNum t = true) (w : World) :
    (binOp .sub 23 (.float .f64 t) (.float .f64 fr)).run P w = .ok (.float .f64 (subI fr t)) w := by
  obtain ⟨r, hr⟩ := sub_some ht h1
  unfold subI
  rw [hr]
  exact run_sub_num 23 t fr r hr w

/-- n whole numbers, one behind the other. -/
def arr (n : Nat) (C : Nat → Nat) : Array Value := ((List.range n).map fun i => Value.int .i64 (C i : Int)).toArray

theorem arr_at (n : Nat) (C : Nat → Nat) (i : Nat) (h : i < n) : (arr n C)[i]? = some (.int .i64 (C i : Int)) := by simp [arr, h]

theorem arr_set (n : Nat) (C C' : Nat → Nat) (i : Nat) (h : ∀ j, j < n → C' j = if j = i then C i + 1 else C j) : (arr n C).setIfInBounds i (.int .i64 ((C i : Int) + 1)) = arr n C' := by
  apply Array.ext'
  apply List.ext_getElem?
  intro j
  simp only [arr, Array.toList_setIfInBounds, List.getElem?_set, List.getElem?_map, List.length_map, List.length_range]
  by_cases hj : j < n
  · rw [List.getElem?_range hj]
    have := h j hj
    by_cases e : i = j
    · subst e
      rw [if_pos rfl, if_pos hj]; simp at this ⊢; omega
    · rw [if_neg e]
      simp [this, Ne.symm e]
  · rw [List.getElem?_eq_none (by simp; omega)]
    by_cases e : i = j
    · subst e; simp [hj]
    · simp [e]

theorem arr_same (n : Nat) (C C' : Nat → Nat) (h : ∀ j, j < n → C' j = C j) : arr n C = arr n C' := by
  unfold arr
  congr 1
  apply List.map_congr_left
  intro j hj
  rw [h j (List.mem_range.1 hj)]

/-- Block g holds just these. -/
def Blk (w : World) (g : Nat) (cs : Array Value) : Prop := w.heap[g]? = some (.cells cs 3 (0, 0))

theorem Blk.cell {w : World} {g : Nat} {cs : Array Value} (h : Blk w g cs) (i : Nat) : w.cell? ⟨g, i, none⟩ = cs[i]? := cell_of_row w g i cs 3 (0, 0) h
theorem Blk.frozen {w : World} {g : Nat} {cs : Array Value} (h : Blk w g cs) (i : Nat) : w.frozen? ⟨g, i, none⟩ = false := by
  unfold Blk at h
  simp [World.frozen?, h]
theorem Blk.drewN {w : World} {g : Nat} {cs : Array Value} (h : Blk w g cs) (n : Nat) : Blk (w.drewN n) g cs := h
theorem Blk.set_ {w : World} {g : Nat} {cs : Array Value} (h : Blk w g cs) (i : Nat) (u : Value) : Blk (w.setCell ⟨g, i, none⟩ u) g (cs.setIfInBounds i u) := by
  unfold Blk at h ⊢
  simp [World.setCell, Array.getElem?_modify, h]
theorem Blk.lt {w : World} {g : Nat} {cs : Array Value} (h : Blk w g cs) : g < w.heap.size := by
  unfold Blk at h
  exact (Array.getElem?_eq_some_iff.1 h).1

theorem only_drewN {a w : World} {row : Option Nat} (h : a.grownBy w row) (n : Nat) : a.grownBy (w.drewN n) row := ⟨h.os, h.tape, h.output, h.size, h.block⟩
theorem only_setCell {a w : World} {g : Nat} (h : a.grownBy w (some g)) (i : Nat) (u : Value) : a.grownBy (w.setCell ⟨g, i, none⟩ u) (some g) :=
  ⟨h.os, h.tape, h.output, by simpa [World.setCell] using h.size, fun k hk hne => (RowKit.Below.heap_setCell w ⟨g, i, none⟩ u k (by rintro rfl; exact hne rfl)).trans (h.block k hk hne)⟩

/-- What is counted behind the first k parts. -/
def bump (fr wd t : Nat) (C : Nat → Nat) (k i : Nat) : Nat := if i < k ∧ inP fr wd t i = true then C i + 1 else C i

set_option maxHeartbeats 4000000 in
theorem parts1_any (n fr wd t bf bo bw g M : Nat) (C : Nat → Nat) (w : World) (h1 : rung fr < 9218868437227405312) (h2 : rung wd < 9218868437227405312) (h3 : 0 < rung wd) (ht : isNum t = true)
    (hn : n ≤ 64) (hM : ∀ i, C i ≤ M) (hM2 : M ≤ 4611686018427387904)
    (hf : w.cell? ⟨bf, 0, none⟩ = some (.float .f64 fr)) (ho : w.cell? ⟨bo, 0, none⟩ = some (.slice (some ⟨g, 0, none⟩) n n)) (hw : w.cell? ⟨bw, 0, none⟩ = some (.float .f64 wd))
    (_hbf : bf ≠ g) (hbo : bo ≠ g) (hbw : bw ≠ g) (hg : Blk w g (arr n C)) :
    Calls Try.prog 30 #[.float .f64 t, .pointer (some ⟨bf, 0, none⟩), .pointer (some ⟨bo, 0, none⟩), .pointer (some ⟨bw, 0, none⟩)] w fun e w' => e = .returned (.tuple #[]) ∧ w.grownBy w' (some g) ∧ Blk w' g (arr n (bump fr wd t C n)) := by
  have hs := fun w => run_sub_i (P := Try.prog) h1 ht w
  have HG := Lib.hid hg
  have HM := Lib.hid hM
  have HF := Lib.hid hf
  have HO := Lib.hid ho
  have HW := Lib.hid hw
  clear hg hM
  go_enter Try.func30, Try.ntmps30
  go_wp2
  clear hs hf ho hw
  go_loopw [14] (fun i wr => ∃ k : Nat, k ≤ n ∧ i = .int .i64 k ∧ w.grownBy wr (some g) ∧ Blk wr g (arr n (bump fr wd t C k))) (fun i _ => n - (intOf i).toNat)
  case atStart => exact ⟨0, Nat.zero_le _, rfl, World.grownBy.refl _ _, by rw [← arr_same n C _ (fun j _ => by unfold bump; rw [if_neg (fun h => by have := h.1; omega)])]; exact HG.out⟩
  case round =>
    obtain ⟨k, hk, rfl, hgr, hblk⟩ := hrel
    have HR := Lib.hid hgr
    have HB := Lib.hid hblk
    clear hgr hblk
    by_cases hlt : k < n
    · have hw' := HR.out.cell HW.out (by simpa using hbw)
      have ho' := HR.out.cell HO.out (by simpa using hbo)
      have hck := (HB.out.cell k).trans (arr_at n _ k hlt)
      have hfz := HB.out.frozen k
      have e0 : bump fr wd t C k k = C k := by unfold bump; rw [if_neg (fun h => by have := h.1; omega)]
      have hMk := HM.out k
      rw [e0] at hck
      have hkz : (k : Int) < (n : Int) := by omega
      have hm1 := fun w => run_mul_i (P := Try.prog) h2 h3 k w
      have hm2 := fun w => run_mul_i (P := Try.prog) h2 h3 (k + 1) w
      rw [show ((k + 1 : Nat) : Int) = (k : Int) + 1 from by omega] at hm2
      have HI := Lib.hid (show inP fr wd t k = (geF (subI fr t) (mulI wd k) && ltF (subI fr t) (mulI wd (k + 1))) from rfl)
      have HSet := Lib.hid (show inP fr wd t k = true → (arr n (bump fr wd t C k)).setIfInBounds k (.int .i64 ((C k : Int) + 1)) = arr n (bump fr wd t C (k + 1)) from fun hi => by
        have := arr_set n (bump fr wd t C k) (bump fr wd t C (k + 1)) k (fun j hj => by
          unfold bump
          by_cases e : j = k
          · subst e; rw [if_pos ⟨by omega, hi⟩, if_pos rfl, if_neg (fun h => by have := h.1; omega)]
          · rw [if_neg e]
            by_cases h : j < k ∧ inP fr wd t j = true
            · rw [if_pos ⟨by have := h.1; omega, h.2⟩, if_pos h]
            · rw [if_neg h, if_neg (fun h' => h ⟨by have := h'.1; omega, h'.2⟩)])
        rwa [e0] at this)
      have HSame := Lib.hid (show inP fr wd t k = false → arr n (bump fr wd t C k) = arr n (bump fr wd t C (k + 1)) from fun hi => arr_same n _ _ (fun j hj => by
          unfold bump
          by_cases e : j = k
          · subst e; rw [if_neg (by rw [hi]; simp), if_neg (fun h => by have := h.1; omega)]
          · by_cases h : j < k ∧ inP fr wd t j = true
            · rw [if_pos ⟨by have := h.1; omega, h.2⟩, if_pos h]
            · rw [if_neg h, if_neg (fun h' => h ⟨by have := h'.1; omega, h'.2⟩)]))
      generalize subI fr t = dd at HI ⊢
      generalize mulI wd k = lo at hm1 HI
      generalize mulI wd (k + 1) = hi at hm2 HI
      clear e0
      cases hc1 : geF dd lo with
      | false =>
        have HE := Lib.hid (HSame.out (by rw [HI.out, hc1]; rfl))
        go_wp2
        go_quiet (fail)
        go_wp2
        go_roundw
        case rel => exact ⟨k + 1, by omega, by go_num, only_drewN HR.out _, by rw [← HE.out]; exact HB.out.drewN _⟩
        case measure => simp [intOf]; omega
      | true =>
        cases hc2 : ltF dd hi with
        | false =>
          have HE := Lib.hid (HSame.out (by rw [HI.out, hc1, hc2]; rfl))
          go_wp2
          go_quiet (fail)
          go_wp2
          go_roundw
          case rel => exact ⟨k + 1, by omega, by go_num, only_drewN HR.out _, by rw [← HE.out]; exact HB.out.drewN _⟩
          case measure => simp [intOf]; omega
        | true =>
          have HE := Lib.hid (HSet.out (by rw [HI.out, hc1, hc2]; rfl))
          go_wp2
          go_quiet (fail)
          go_wp2
          go_roundw
          case rel => exact ⟨k + 1, by omega, by go_num, only_setCell (only_drewN HR.out _) _ _, by rw [← HE.out]; exact (HB.out.drewN _).set_ _ _⟩
          case measure => simp [intOf]; omega
    · have : k = n := by omega
      subst this
      have ho' := HR.out.cell HO.out (by simpa using hbo)
      go_wp2
      go_end0
      exact ⟨rfl, HR.out, HB.out⟩

end Go.Proofs.Ytgabaljmepgeiaa
