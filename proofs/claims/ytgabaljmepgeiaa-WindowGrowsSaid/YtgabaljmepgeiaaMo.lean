/-
  What the program's Most comes to: of the times in order the first whose window has the most.
  No conditions but that the history is read.
-/
import Derived.Test.YtgabaljmepgeiaaCl
namespace Go.Proofs.Ytgabaljmepgeiaa
open Go.RowKit

theorem Hst.later {w w' : World} {B : Nat} {A : Option Addr} {n : Nat} {D : List Nat} (h : Hst w B A n D) (hb : RowKit.Below B w w') : Hst w' B A n D :=
  ⟨h.1, fun hp => by
    obtain ⟨b, off, e, hB, hc⟩ := h.2 hp
    refine ⟨b, off, e, hB, fun i hi => ?_⟩
    obtain ⟨c1, c2, c3, c4, c5, h0, h1, h2, h3, h4, h5⟩ := hc i hi
    exact ⟨c1, c2, c3, c4, c5, (hb.cell (p := ⟨b, _, none⟩) hB).trans h0, (hb.cell (p := ⟨b, _, none⟩) hB).trans h1, (hb.cell (p := ⟨b, _, none⟩) hB).trans h2, (hb.cell (p := ⟨b, _, none⟩) hB).trans h3, (hb.cell (p := ⟨b, _, none⟩) hB).trans h4, (hb.cell (p := ⟨b, _, none⟩) hB).trans h5⟩⟩

theorem Hst.more {w : World} {B B' : Nat} {A : Option Addr} {n : Nat} {D : List Nat} (h : Hst w B A n D) (hB : B ≤ B') : Hst w B' A n D :=
  ⟨h.1, fun hp => by
    obtain ⟨b, off, e, hb, hc⟩ := h.2 hp
    exact ⟨b, off, e, by omega, hc⟩⟩

theorem Row.more {w : World} {B B' : Nat} {v : Value} {S : List Nat} (h : Row w B v S) (hB : B' ≤ B) : Row w B' v S := by
  obtain ⟨A, c, rfl, hc, hn, h⟩ := h
  refine ⟨A, c, rfl, hc, hn, fun hp => ?_⟩
  obtain ⟨g, rfl, hb, r⟩ := h hp
  exact ⟨g, rfl, by omega, r⟩

theorem srt_le {D : List Nat} {n : Nat} (h : D.length = n) : (srt D).length ≤ n := by
  rw [(srt_perm D).length_eq, ← h]; exact List.length_filterMap_le _ _

/-- times, as the callers want it: from whatever world behind the one in which the history was read. -/
theorem times_row (A : Option Addr) (n c : Nat) (D : List Nat) (hDb : ∀ b ∈ D, b < 18446744073709551616) (B : Nat) (w0 w : World) (hD : Hst w0 B A n D) (hb : RowKit.Below B w0 w) (hB : B ≤ w.heap.size) (hn : n ≤ 2932031007403) :
    Calls Try.prog 23 #[.slice A n c] w fun e w' => ∃ A' c', e = .returned (.slice A' (srt D).length c') ∧ Row w' w.heap.size (.slice A' (srt D).length c') (srt D) ∧ RowKit.Below w.heap.size w w' :=
  (times_walk A n c D hDb w ((hD.later hb).more hB) hn).mono fun _ _ ⟨v, he, ho, hb⟩ => by
    have h := row_of_own ho (by have := srt_le hD.1; omega)
    obtain ⟨A', c', rfl, _⟩ := id h
    exact ⟨A', c', he, h, hb⟩

def mostStep (S : List Nat) (w : Nat) (p : Nat × Nat) (a : Nat) : Nat × Nat := if p.1 < cnt S a w then (cnt S a w, a) else p
def mostTo (S : List Nat) (w k : Nat) : Nat × Nat := (S.take k).foldl (mostStep S w) (0, 0)
def mostS (S : List Nat) (w : Nat) : Nat × Nat := S.foldl (mostStep S w) (0, 0)

theorem mostTo_one (S : List Nat) (w k : Nat) (h : k < S.length) : mostTo S w (k + 1) = mostStep S w (mostTo S w k) (S[k]?.getD 0) := by
  unfold mostTo; rw [take_one S k h, List.foldl_append]; rfl
theorem mostTo_all (S : List Nat) (w : Nat) : mostTo S w S.length = mostS S w := by unfold mostTo mostS; rw [List.take_length]

theorem cnt_len (S : List Nat) (a w : Nat) : cnt S a w ≤ S.length := List.countP_le_length

set_option maxHeartbeats 1000000 in
theorem most_any (A : Option Addr) (n c wd : Nat) (D : List Nat) (hDb : ∀ b ∈ D, b < 18446744073709551616) (w : World) (hD : Hst w w.heap.size A n D) (hn : n ≤ 2932031007403) :
    Calls Try.prog 10 #[.slice A n c, .float .f64 wd] w fun e w' => e = .returned (.tuple #[.int .i64 (mostS (srt D) wd).1, .float .f64 (mostS (srt D) wd).2]) ∧ RowKit.Below w.heap.size w w' := by
  have hmf : ∀ (fn : Fn) (first cap : Array Value) (w : World), (Instr.makeFunc fn first cap).run Try.prog w = .ok (.func fn first cap) w := fun _ _ _ _ => rfl
  have hcon := times_row A n c D hDb w.heap.size w (w.alloc (.cells #[.float .f64 wd] 23)) hD ((RowKit.Below.refl _ _).alloc (Nat.le_refl _) _) (by simp) hn
  have HC := Lib.hid hcon
  have HD := Lib.hid hD
  have HDb := Lib.hid hDb
  clear hcon hD hDb
  go_enter Try.func10, Try.ntmps10
  go_wp2_with (go_at_call 23; refine HC.out.mono ?_; rintro e w1 ⟨A1, c1, rfl, hrow, hb1⟩; have hz1 := hb1.size; simp at hz1)
  have hr2 := hrow.later (w' := w1.alloc (.cells #[.slice A1 (srt D).length c1] 54)) ((RowKit.Below.refl _ _).alloc (Nat.le_refl _) _)
  have hct : (w1.alloc (.cells #[.slice A1 (srt D).length c1] 54)).cell? ⟨w1.heap.size, 0, none⟩ = some (.slice A1 (srt D).length c1) := by simp
  have hcw : (w1.alloc (.cells #[.slice A1 (srt D).length c1] 54)).cell? ⟨w.heap.size, 0, none⟩ = some (.float .f64 wd) := by
    rw [World.cell?_alloc_past _ _ _ (show w.heap.size < w1.heap.size by omega), hb1.cell (by simp)]; simp
  have hb2 : RowKit.Below w.heap.size w (w1.alloc (.cells #[.slice A1 (srt D).length c1] 54)) :=
    (((RowKit.Below.refl _ _).alloc (Nat.le_refl _) _).trans (hb1.mono (by simp))).alloc (by omega) _
  clear hrow
  generalize w1.alloc (.cells #[.slice A1 (srt D).length c1] 54) = w2 at hr2 hct hcw hb2 ⊢
  have HR := Lib.hid hr2
  obtain ⟨A2, c2, he, hc, hn2, hcell⟩ := hr2
  cases he
  have HCc := Lib.hid hcell
  clear hcell
  go_loopw [8, 9, 18] (fun s f i wr => ∃ k q : Nat, k ≤ (srt D).length ∧ i = .int .i64 k ∧ s = .int .i64 (mostTo (srt D) wd k).1 ∧ f = .float .f64 (mostTo (srt D) wd k).2 ∧ (mostTo (srt D) wd k).1 ≤ (srt D).length ∧ wr = w2.drewN q) (fun _ _ i _ => (srt D).length - (intOf i).toNat)
  case atStart => exact ⟨0, 0, Nat.zero_le _, rfl, rfl, rfl, Nat.zero_le _, rfl⟩
  case round =>
    obtain ⟨k, q, hk, rfl, rfl, rfl, hm, rfl⟩ := hrel
    by_cases hlt : k < (srt D).length
    · obtain ⟨g, rfl, hB, hg, hcs⟩ := HCc.out (by omega)
      have h0 := hcs k hlt
      have H1 := Lib.hid (mostTo_one (srt D) wd k hlt)
      have hcl := cnt_len (srt D) ((srt D)[k]?.getD 0) wd
      clear hcs
      generalize (srt D)[k]?.getD 0 = x at h0 H1 hcl
      have H2 := Lib.hid (most1_any (srt D) x wd w1.heap.size w.heap.size _ _ (w2.drewN q) (HR.out.later (below_drewN (RowKit.Below.refl _ _) q)) hct hcw)
      by_cases hgt : (mostTo (srt D) wd k).1 < cnt (srt D) x wd
      · have H3 := Lib.hid (show mostStep (srt D) wd (mostTo (srt D) wd k) x = (cnt (srt D) x wd, x) by unfold mostStep; rw [if_pos hgt])
        have hgz : ((mostTo (srt D) wd k).1 : Int) < (cnt (srt D) x wd : Int) := by omega
        go_wp2_with (go_at_call 24; refine H2.out.mono ?_; rintro e w' ⟨rfl, q2, rfl⟩)
        go_roundw
        case rel => exact ⟨k + 1, q + q2, by omega, by go_num, by rw [H1.out, H3.out], by rw [H1.out, H3.out], by rw [H1.out, H3.out]; exact hcl, rfl⟩
        case measure => simp [intOf]; omega
      · have H3 := Lib.hid (show mostStep (srt D) wd (mostTo (srt D) wd k) x = mostTo (srt D) wd k by unfold mostStep; rw [if_neg hgt])
        have hgz : ¬ ((mostTo (srt D) wd k).1 : Int) < (cnt (srt D) x wd : Int) := by omega
        go_wp2_with (go_at_call 24; refine H2.out.mono ?_; rintro e w' ⟨rfl, q2, rfl⟩)
        go_roundw
        case rel => exact ⟨k + 1, q + q2, by omega, by go_num, by rw [H1.out, H3.out], by rw [H1.out, H3.out], by rw [H1.out, H3.out]; exact hm, rfl⟩
        case measure => simp [intOf]; omega
    · have : k = (srt D).length := by omega
      subst this
      go_wp2
      go_ret2
      exact ⟨by rw [mostTo_all]; rfl, below_drewN hb2 q⟩

end Go.Proofs.Ytgabaljmepgeiaa
