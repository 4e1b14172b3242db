/-
  What the program's own 'times' comes to: the times in order, in memory of its own.
  No conditions but that the history is read.
-/
import Derived.Test.YtgabaljmepgeiaaSr
import Derived.Shelf.SlicesE.Kit
import Derived.Lib.OwnBridge
import Derived.Test.YtgabaljmepgeiaaSh
namespace Go.Proofs.Ytgabaljmepgeiaa
open Go.RowKit Go.Sort Go.Proofs Go.Shelf Go.Lib

theorem below_drewN {B : Nat} {a w : World} (h : Below B a w) (n : Nat) : Below B a (w.drewN n) := ⟨h.os, h.tape, h.output, h.size, h.block⟩

theorem tmReads (blk off size : Nat) (w : World) : CmpReads Try.prog 35 #[] (Value.float .f64) tmC blk off size w :=
  fun _ _ _ _ x y => (times_any x y _).mono fun _ _ ⟨he, hw⟩ => ⟨he, 0, hw.symm⟩

theorem run_store_float (P : Program) (w : World) (a : Addr) (m : Mode) (k : FloatKind) (b : Nat) : (store a (.float k b) m).run P w = stored P w a (.float k b) m := run_store P w a _ m rfl
attribute [local go_sem] run_store_float

theorem cell_one_at (w : World) (v : Value) (T : TypeId) (n : Nat) (h : n = w.heap.size) : ∀ j u, [v][j]? = some u → (w.alloc (.cells #[v] T)).cell? ((⟨n, 0, none⟩ : Addr).add j) = some u := by
  subst h; exact cell_one_new w v T

theorem grow_below {B : Nat} {w0 w : World} (h : RowKit.Below B w0 w) (hB : B ≤ w.heap.size) (os : Array Obj) : RowKit.Below B w0 (grow w os) :=
  ⟨h.os, h.tape, h.output, by rw [size_grow]; have := h.size; omega, fun k hk => (heap_grow_old w os (by omega)).trans (h.block k hk)⟩

theorem grow_grown (w : World) (os : Array Obj) : w.grownBy (grow w os) none :=
  ⟨rfl, rfl, rfl, by rw [size_grow]; omega, fun k hk _ => heap_grow_old w os hk⟩

theorem sort_own (D : List Nat) (hD : ∀ b ∈ D, b < 18446744073709551616) (hsz : (tms D).length < 4611686018427387904) (B : Nat) (v : Value) (w0 w : World) (hown : w.ownsRow B 23 1 v (tms D).length (flt (tms D))) (hb : RowKit.Below B w0 w) (hB : B ≤ w.heap.size) :
    Calls Try.prog 34 #[v, .func (.func 35) #[] #[]] w fun e w' => e = .returned (.tuple #[]) ∧ w'.ownsRow B 23 1 v (srt D).length (flt (srt D)) ∧ RowKit.Below B w0 w' := by
  have eg : ∀ args w, (callFunc 35 args).run Try.prog w = .ok (.enter 35 args) w := enters_of Try.func35 (by kernel_rfl) rfl
  have hlen : (srt D).length = (tms D).length := (srt_perm D).length_eq
  by_cases hv : v = .slice none 0 0
  · subst hv
    have hl : (tms D).length = 0 := by
      rcases hown.2 with ⟨_, h⟩ | ⟨g, cap, cur, h, _⟩
      · exact h
      · cases h
    have hs : srt D = [] := List.eq_nil_of_length_eq_zero (by omega)
    have hcon := AnyF.slices_SortFunc_none { Try.sortF with } none 0 (.func (.func 35) #[] #[]) w
    change Calls Try.prog 34 _ _ _ at hcon
    refine hcon.mono ?_
    rintro e w' ⟨rfl, rfl⟩
    exact ⟨rfl, by rw [hs]; exact World.ownsRow_nil _ _ _ _, hb⟩
  · obtain ⟨g, cap, rfl, hBg, hg, hn, hm, hl, hH⟩ := holds_of_ownsRow hown hv
    have hcon := Any.slices_SortFunc Try.sortF (Value.float .f64) (fun _ => rfl) tmC swoT 35 #[] g 0 cap (tms D).toArray w eg (tmReads g 0 _ w).lays hH hg (by simpa using hsz)
    change Calls Try.prog 34 _ _ _ at hcon
    have e1 : (tms D).toArray.size = (tms D).length := by simp
    rw [e1] at hcon
    refine hcon.mono ?_
    rintro e w' ⟨rfl, d', n, os, hp, hs, rfl⟩
    have hd := srt_of_sort hD (by rw [e1]; exact hp) (by rw [e1]; exact hs)
    have hd2 : d' = (srt D).toArray := by rw [← hd]
    subst hd2
    have h1 := ownsRow_putRow (q := n) (k := (tms D).length) hown hlen (Nat.le_refl _)
    have h2 := below_putRow (enc := Value.float .f64) (q := n) (d := (srt D).toArray) hb hBg
    refine ⟨rfl, ?_, ?_⟩
    · rw [hlen]
      rw [← hlen, List.take_length, hlen] at h1
      exact h1.kept (grow_grown _ os) (.inr (by simp [Value.ownBlock]))
    · exact grow_below h2 (by simp [putRow, mapBlock, Sort.ahead]; exact hB) os

set_option maxHeartbeats 2000000 in
theorem times_walk (A : Option Addr) (n c : Nat) (D : List Nat) (hDb : ∀ b ∈ D, b < 18446744073709551616) (w : World) (hD : Hst w w.heap.size A n D) (hn : n ≤ 2932031007403) :
    Calls Try.prog 23 #[.slice A n c] w fun e w' => ∃ v, e = .returned v ∧ w'.ownsRow w.heap.size 23 1 v (srt D).length (flt (srt D)) ∧ RowKit.Below w.heap.size w w' := by
  obtain ⟨i0, hi0, hz0, hz1, hz2⟩ := info_parts info23
  have HD := Lib.hid hD
  have hDl := Lib.hid hD.1
  have HDb := Lib.hid hDb
  clear hD hDb
  go_enter Try.func23, Try.ntmps23
  go_wp2
  go_loopw [3, 10] (fun v i wr => ∃ k : Nat, k ≤ n ∧ i = .int .i64 k ∧ wr.ownsRow w.heap.size 23 1 v (tms (D.take k)).length (flt (tms (D.take k))) ∧ RowKit.Below w.heap.size w wr) (fun _ i _ => n - (intOf i).toNat)
  case atStart => exact ⟨0, Nat.zero_le _, rfl, World.ownsRow_nil _ _ _ _, RowKit.Below.refl _ _⟩
  case round =>
    obtain ⟨k, hk, rfl, hown, hb⟩ := hrel
    have hle := tms_le D k
    have hsz := hb.size
    by_cases hlt : k < n
    · obtain ⟨b, off, rfl, hbB, hcs⟩ := HD.out.2 (by omega)
      obtain ⟨c1, c2, c3, c4, c5, h0, h1, h2, h3, h4, h5⟩ := hcs k hlt
      have h0 := (hb.cell (p := ⟨b, off + k * 6, none⟩) hbB).trans h0
      have h1 := (hb.cell (p := ⟨b, off + k * 6 + 1, none⟩) hbB).trans h1
      have h2 := (hb.cell (p := ⟨b, off + k * 6 + 2, none⟩) hbB).trans h2
      have h3 := (hb.cell (p := ⟨b, off + k * 6 + 3, none⟩) hbB).trans h3
      have h4 := (hb.cell (p := ⟨b, off + k * 6 + 4, none⟩) hbB).trans h4
      have h5 := (hb.cell (p := ⟨b, off + k * 6 + 5, none⟩) hbB).trans h5
      clear hcs
      have hcon := norm_any (D[k]?.getD 0) 
      cases hx : nrm (D[k]?.getD 0) with
      | none =>
        have e : nrmV (D[k]?.getD 0) = .tuple #[.float .f64 0, .int .i64 7] := by simp [nrmV, hx]
        rw [e] at hcon
        have HC := Lib.hid hcon
        have HM := Lib.hid (tms_miss D k (by rw [hDl.out]; exact hlt) hx)
        clear e hx hcon
        go_wp2_with (go_at_call 33; refine (HC.out _).mono ?_; rintro e w' ⟨rfl, rfl⟩)
        go_roundw
        case rel =>
          exact ⟨k + 1, by omega, by go_num, by rw [HM.out]; exact hown.alloc _, hb.alloc hsz _⟩
        case measure => simp [intOf]; omega
      | some r =>
        have e : nrmV (D[k]?.getD 0) = .tuple #[.float .f64 r, .int .i64 0] := by simp [nrmV, hx]
        rw [e] at hcon
        have HC := Lib.hid hcon
        have HM := Lib.hid (tms_hit D k r (by rw [hDl.out]; exact hlt) hx)
        clear e hx hcon
        go_wp2_with (first | (go_at_call 33; refine (HC.out _).mono ?_; rintro e w' ⟨rfl, rfl⟩) | (at_builtin; refine wpList_append_own _ rfl _ _ 54 rfl w.heap.size 23 i0 (.float .f64 0) 1 8 Try.underlying54 hi0 hz0 hz1 hz2 rfl (by decide) _ _ _ rfl ((hown.alloc _).alloc _) ⟨wr.heap.size + 1, 0, none⟩ 1 1 [.float .f64 r] rfl rfl (cell_one_at _ _ _ _ (by simp)) (by simp [Value.oneCell']) (by simp only [maxLen]; omega) (by omega) (by simp; omega) ?_; intro v' w1 hown' hgrow _))
        go_roundw
        case rel => exact ⟨k + 1, by omega, by go_num, by rw [HM.out]; simpa [flt] using hown', ((hb.alloc hsz _).alloc (by simp; omega) _).grown hgrow (by simp; omega) (fun j hj => by have := (hown.lt j hj).1; omega)⟩
        case measure => simp [intOf]; omega
    · have : k = n := by omega
      subst this
      have hl := hDl.out
      rw [← hl, List.take_length] at hown
      have hle2 : (tms D).length ≤ k := by rw [← hl]; have := tms_le D D.length; rwa [List.take_length] at this
      have hcon := sort_own D HDb.out (by omega) w.heap.size _ w wr hown hb hb.size
      have HC := Lib.hid hcon
      clear hcon hl hown
      go_wp2_with (go_at_call 34; refine HC.out.mono ?_; rintro e w' ⟨rfl, hown2, hb2⟩)
      go_ret
      exact ⟨_, rfl, hown2, hb2⟩

end Go.Proofs.Ytgabaljmepgeiaa
