/-
  WindowGrows answers true for every history, every two lengths and every event more; and leaves its argument as it was.
  No conditions.
-/
import Derived.Test.YtgabaljmepgeiaaOr
import Derived.Deep.RegionHeld3
import Derived.Deep.AppendLies
namespace Go.Proofs.Ytgabaljmepgeiaa
open Go.ChangeShapes Go.WideShapes Go.ChangeAt Go.RowKit Go.Deep

attribute [local go_sem] run_store_float

theorem own_empty {w : World} {B g : Nat} (h : w.heap[g]? = some (.cells #[] 46 (0, 0))) (hb : B ≤ g) : w.ownsRow B 46 6 (.slice (some ⟨g, 0, none⟩) 0 0) 0 [] :=
  ⟨rfl, .inr ⟨g, 0, #[], rfl, hb, h, Nat.le_refl _, by simp [maxLen], rfl, rfl⟩⟩

theorem hst_at {w : World} {B g k cap : Nat} {xs : List Value} {D : List Nat} (h : w.ownsRow B 46 6 (.slice (some ⟨g, 0, none⟩) k cap) k xs) (he : Evs xs k D) : Hst w w.heap.size (some ⟨g, 0, none⟩) k D := by
  obtain ⟨A, c, e, _, hH⟩ := hst_of_own h he
  cases e
  exact hH

theorem he1 (w : World) (o : Obj) : (w.alloc o).heap[w.heap.size]? = some o := heap_alloc_new w o
theorem he2 (w : World) (o o' : Obj) : ((w.alloc o).alloc o').heap[w.heap.size]? = some o := (RowKit.Below.heap_alloc _ _ _ (by simp)).trans (heap_alloc_new w o)
theorem he3 (w : World) (o o' : Obj) : ((w.alloc o).alloc o').heap[w.heap.size + 1]? = some o' := by
  have := heap_alloc_new (w.alloc o) o'
  rwa [World.size_alloc] at this

theorem own_base {w : World} {B g k cap : Nat} {xs : List Value} (h : w.ownsRow B 46 6 (.slice (some ⟨g, 0, none⟩) k cap) k xs) : B ≤ g := by
  rcases h.2 with ⟨e, _⟩ | ⟨g', cap', cur, e, hB, _⟩
  · cases e
  · cases e; exact hB
theorem own_block {w w' : World} {B g k cap : Nat} {xs : List Value} (h : w.ownsRow B 46 6 (.slice (some ⟨g, 0, none⟩) k cap) k xs) (hb : w'.heap[g]? = w.heap[g]?) : w'.ownsRow B 46 6 (.slice (some ⟨g, 0, none⟩) k cap) k xs := by
  refine ⟨h.1, ?_⟩
  rcases h.2 with ⟨e, _⟩ | ⟨g', cap', cur, e, hB, hg, hr⟩
  · cases e
  · cases e; exact .inr ⟨g, cap, cur, rfl, hB, hb.trans hg, hr⟩
theorem own_alloc {w : World} {B g k cap : Nat} {xs : List Value} (h : w.ownsRow B 46 6 (.slice (some ⟨g, 0, none⟩) k cap) k xs) (o : Obj) : (w.alloc o).heap[g]? = w.heap[g]? := by
  rcases h.2 with ⟨e, _⟩ | ⟨g', cap', cur, e, hB, hg, hr⟩
  · cases e
  · cases e; exact RowKit.Below.heap_alloc _ _ _ (Array.getElem?_eq_some_iff.1 hg).1

/-- Onto an empty row of the call's own: a history that is read. -/
theorem run_app_hist (w : World) (ty : TypeId) (B B2 g : Nat) (hg : w.heap[g]? = some (.cells #[] 46 (0, 0))) (hB : B ≤ g) (A : Option Addr) (m c : Nat) (E : List Nat) (hH : Hst w B2 A m E) (hm : m ≤ 60) :
    ∃ g' cap' xs w', (Builtin.append_ #[22, 22] ty #[.slice (some ⟨g, 0, none⟩) 0 0, .slice A m c]).run Try.prog w = .ok (.slice (some ⟨g', 0, none⟩) m cap') w' ∧
      w'.ownsRow B 46 6 (.slice (some ⟨g', 0, none⟩) m cap') m xs ∧ Evs xs m E ∧ w.grownBy w' (some g) := by
  obtain ⟨i0, hi0, hz0, hz1, hz2⟩ := info_parts info46
  have hlt : g < w.heap.size := (Array.getElem?_eq_some_iff.1 hg).1
  rcases Nat.eq_zero_or_pos m with h0 | h0
  · subst h0
    have hE : E = [] := List.eq_nil_of_length_eq_zero hH.1
    subst hE
    refine ⟨g, 0, [], w, ?_, own_empty hg hB, Evs.nil, World.grownBy.refl _ _⟩
    simp [Builtin.append_, run_underlying Try.underlying22, sizeOf, typeInfo, hi0, Builtin.lenOf, Builtin.firstCells]
    cases A <;> simp [storeCells, loadCells, loadCellsFrom]
  · obtain ⟨b, off, rfl, hb, hc⟩ := hH.2 h0
    have hcell : ∀ j, j < m * 6 → ∃ u, w.cell? ⟨b, off + j, none⟩ = some u ∧ u.oneCell' = true := fun j hj => by
      obtain ⟨c1, c2, c3, c4, c5, e0, e1, e2, e3, e4, e5⟩ := hc (j / 6) (by omega)
      have hr : j % 6 < 6 := Nat.mod_lt _ (by omega)
      have hd : off + j = off + j / 6 * 6 + j % 6 := by omega
      rw [hd]
      match j % 6, hr with
      | 0, _ => exact ⟨_, e0, rfl⟩
      | 1, _ => exact ⟨_, e1, rfl⟩
      | 2, _ => exact ⟨_, e2, rfl⟩
      | 3, _ => exact ⟨_, e3, rfl⟩
      | 4, _ => exact ⟨_, e4, rfl⟩
      | 5, _ => exact ⟨_, e5, rfl⟩
    have hget : ∀ j u, ((List.range (m * 6)).map fun j => (w.cell? ⟨b, off + j, none⟩).getD undef)[j]? = some u → w.cell? ((⟨b, off, none⟩ : Addr).add j) = some u := fun j u hu => by
      rw [add_lit]
      rw [List.getElem?_map] at hu
      rcases Nat.lt_or_ge j (m * 6) with hj | hj
      · obtain ⟨v, hv, _⟩ := hcell j hj
        rw [List.getElem?_range hj] at hu
        simp only [Option.map_some, hv, Option.getD_some] at hu
        rw [hv, hu]
      · rw [List.getElem?_eq_none (by simpa using hj)] at hu
        cases hu
    have hone : ∀ u ∈ (List.range (m * 6)).map fun j => (w.cell? ⟨b, off + j, none⟩).getD undef, u.oneCell' = true := fun u hu => by
      obtain ⟨j, hj, rfl⟩ := List.mem_map.1 hu
      obtain ⟨v, hv, h1⟩ := hcell j (List.mem_range.1 hj)
      rw [hv]; exact h1
    obtain ⟨g', cap', w', hr, h2, h3, _, _⟩ := run_append_lies (P := Try.prog) w 22 ty B 46 i0 _ 6 48 Try.underlying22 hi0 hz0 hz1 hz2 rfl (by decide) _ 0 [] (own_empty hg hB) ⟨b, off, none⟩ m c _ (by simp) hget hone h0 (by simp only [maxLen]; omega) (by omega) (by omega) _ rfl
    rw [Nat.zero_add, List.nil_append] at h2
    rw [Nat.zero_add] at hr
    refine ⟨g', cap', _, w', hr, h2, ⟨by simp, hH.1, fun i hi => ?_⟩, h3⟩
    obtain ⟨c1, c2, c3, c4, c5, e0, e1, e2, e3, e4, e5⟩ := hc i hi
    refine ⟨c1, c2, c3, c4, c5, fun j hj => ?_⟩
    rw [List.getElem?_map, List.getElem?_range (by omega)]
    have hd : off + (i * 6 + j) = off + i * 6 + j := by omega
    simp only [Option.map_some, hd]
    match j, hj with
    | 0, _ => rw [Nat.add_zero, e0]; rfl
    | 1, _ => rw [e1]; rfl
    | 2, _ => rw [e2]; rfl
    | 3, _ => rw [e3]; rfl
    | 4, _ => rw [e4]; rfl
    | 5, _ => rw [e5]; rfl

theorem step_app_hist (w : World) {ops : Array Oper} {o : Oper} {a : Act} {K : Act → World → Prop} {Q : Exit → Act → World → Prop} {F : Prop} (hgd : o.guard = none) (s x : Operand)
    (ho : o.op = .call { callee := .builtin .append, args := #[s, x], argTypes := #[22, 22] }) (B B2 g : Nat) (hs : a.eval s = .slice (some ⟨g, 0, none⟩) 0 0) (hg : w.heap[g]? = some (.cells #[] 46 (0, 0))) (hB : B ≤ g)
    (A : Option Addr) (m c : Nat) (E : List Nat) (hx : a.eval x = .slice A m c) (hH : Hst w B2 A m E) (hm : m ≤ 60)
    (h : ∀ g' cap' xs w', w'.ownsRow B 46 6 (.slice (some ⟨g', 0, none⟩) m cap') m xs → Evs xs m E → w.grownBy w' (some g) → K (a.put o.dst (.slice (some ⟨g', 0, none⟩) m cap')) w') :
    if Region.wanted o (yielded ops a.tmps) = true then Oper.wp Try.prog o a w K Q else F := by
  have hw : Region.wanted o (yielded ops a.tmps) = true := by simp [Region.wanted, hgd]
  rw [if_pos hw]
  obtain ⟨g', cap', xs, w', hr, h2, h3, h4⟩ := run_app_hist w o.type B B2 g hg hB A m c E hH hm
  unfold Oper.wp execOp
  simp only [ho, resolve, invoke, builtin, Sem.run_bind, Sem.run_pure, Result.andThen_ok, List.map_toArray, List.map_cons, List.map_nil, hs, hx, hr]
  exact h g' cap' xs w' h2 h3 h4

set_option maxHeartbeats 4000000 in
set_option maxRecDepth 100000 in
theorem grows_law (A : Option Addr) (n c wd vd x : Nat) (c1 c2 c3 c4 c5 : Int) (hx : x < 18446744073709551616) (D : List Nat) (hDb : ∀ b ∈ D, b < 18446744073709551616) (hc : n ≤ c) (hm : c ≤ maxLen) (w : World) (hD : Hst w w.heap.size A n D) :
    Calls Try.prog 7 #[.agg #[.slice A n c, .float .f64 wd, .float .f64 vd, .float .f64 x, .int .i64 c1, .int .i64 c2, .int .i64 c3, .int .i64 c4, .int .i64 c5]] w fun e w' => e = .returned (.bool true) ∧ RowKit.Below w.heap.size w w' := by
  have hn : n ≤ 9223372036854775807 := by simp only [maxLen] at hm; omega
  have hDt := hD.take (min n 60) (by omega)
  have hDb2 : ∀ b ∈ D.take (min n 60), b < 18446744073709551616 := fun b hb => hDb b (List.mem_of_mem_take hb)
  generalize D.take (min n 60) = E at hDt hDb2
  have hm60 : min n 60 ≤ 60 := by omega
  have HF := Lib.hid (few_any A n c hc hn)
  clear hD hDb hc hm
  generalize min n 60 = m at *
  go_enter Try.func7, Try.ntmps7
  go_wp2
  go_region
  go_wp2_with fail
  have hb1 : RowKit.Below w.heap.size w ((w.alloc (.cells #[.slice A n c, .float .f64 wd, .float .f64 vd, .float .f64 x, .int .i64 c1, .int .i64 c2, .int .i64 c3, .int .i64 c4, .int .i64 c5] 49)).alloc (.cells #[.float .f64 x, .int .i64 c1, .int .i64 c2, .int .i64 c3, .int .i64 c4, .int .i64 c5] 46)).drew :=
    (((RowKit.Below.refl _ _).alloc (Nat.le_refl _) _).alloc (by simp) _).drew
  have hbk : ((w.alloc (.cells #[.slice A n c, .float .f64 wd, .float .f64 vd, .float .f64 x, .int .i64 c1, .int .i64 c2, .int .i64 c3, .int .i64 c4, .int .i64 c5] 49)).alloc (.cells #[.float .f64 x, .int .i64 c1, .int .i64 c2, .int .i64 c3, .int .i64 c4, .int .i64 c5] 46)).drew.heap[w.heap.size + 1]? = some (.cells #[.float .f64 x, .int .i64 c1, .int .i64 c2, .int .i64 c3, .int .i64 c4, .int .i64 c5] 46 (0, 0)) := by
    have := heap_alloc_new (w.alloc (.cells #[.slice A n c, .float .f64 wd, .float .f64 vd, .float .f64 x, .int .i64 c1, .int .i64 c2, .int .i64 c3, .int .i64 c4, .int .i64 c5] 49)) (.cells #[.float .f64 x, .int .i64 c1, .int .i64 c2, .int .i64 c3, .int .i64 c4, .int .i64 c5] 46)
    rw [World.size_alloc] at this
    exact this
  generalize ((w.alloc (.cells #[.slice A n c, .float .f64 wd, .float .f64 vd, .float .f64 x, .int .i64 c1, .int .i64 c2, .int .i64 c3, .int .i64 c4, .int .i64 c5] 49)).alloc (.cells #[.float .f64 x, .int .i64 c1, .int .i64 c2, .int .i64 c3, .int .i64 c4, .int .i64 c5] 46)).drew = W1 at hb1 hbk ⊢
  have hlt1 : w.heap.size + 1 < W1.heap.size := (Array.getElem?_eq_some_iff.1 hbk).1
  have HDt := Lib.hid hDt
  have hEl := Lib.hid hDt.1
  clear hDt
  refine (HF.out _).mono ?_
  rintro e w0 ⟨c', rfl, hc', rfl⟩
  go_wp2_with fail
  refine (most_any A m c' wd E hDb2 W1 ((HDt.out.later hb1).more hb1.size) (by omega)).mono ?_
  rintro e W2 ⟨rfl, b2⟩
  have hb2 := hb1.trans (b2.mono hb1.size)
  have hbk2 := (b2.block _ hlt1).trans hbk
  have hs2 := b2.size
  clear b2 hbk hb1
  go_wp2_with fail
  refine (most_any A m c' vd E hDb2 W2 ((HDt.out.later hb2).more hb2.size) (by omega)).mono ?_
  rintro e W3 ⟨rfl, b3⟩
  have hb3 := hb2.trans (b3.mono hb2.size)
  have hbk3 := (b3.block _ (by omega)).trans hbk2
  have hs3 := b3.size
  clear b3 hbk2 hb2
  have hcl : ∀ j, W3.cell? ⟨w.heap.size + 1, j, none⟩ = _ := fun j => cell_of_row W3 (w.heap.size + 1) j _ 46 (0, 0) hbk3
  have k0 := hcl 0
  have k1 := hcl 1
  have k2 := hcl 2
  have k3 := hcl 3
  have k4 := hcl 4
  have k5 := hcl 5
  simp at k0 k1 k2 k3 k4 k5
  clear hcl hbk3
  have M1 := Lib.hid (fun h => most_mono hDb2 (w := wd) (v := vd) h)
  have M2 := Lib.hid (most_more hDb2 hx wd)
  have M3 := Lib.hid (most_len hDb2 wd)
  generalize mostS (srt E) wd = p1 at *
  generalize mostS (srt E) vd = p2 at *
  obtain ⟨pn, pa⟩ := p1
  obtain ⟨qn, qa⟩ := p2
  have hEb : ∀ b ∈ E ++ [x], b < 18446744073709551616 := fun b hb => by
    rcases List.mem_append.1 hb with h | h
    · exact hDb2 b h
    · simp at h; subst h; exact hx
  have HM := Lib.hid (fun g cap xs (W : World) (ho : W.ownsRow W3.heap.size 46 6 (.slice (some ⟨g, 0, none⟩) (m + 1) cap) (m + 1) xs) (he : Evs xs (m + 1) (E ++ [x])) =>
    most_any (some ⟨g, 0, none⟩) (m + 1) cap wd (E ++ [x]) hEb W (hst_at ho he) (by omega))
  generalize mostS (srt (E ++ [x])) wd = p3 at *
  obtain ⟨kn, ka⟩ := p3
  have HDt3 := Lib.hid (HDt.out.later hb3)
  have HB3 := Lib.hid hb3
  obtain ⟨i0, hi0, hz0, hz1, hz2⟩ := info_parts info46
  have hlt3 : w.heap.size + 1 < W3.heap.size := by omega
  clear hb3
  go_wp2_with fail
  go_region_held3 (fun w' => w'.cell? ⟨w.heap.size + 1, 0, none⟩ = some (.float .f64 x) ∧ w'.cell? ⟨w.heap.size + 1, 1, none⟩ = some (.int .i64 c1) ∧ w'.cell? ⟨w.heap.size + 1, 2, none⟩ = some (.int .i64 c2) ∧
      w'.cell? ⟨w.heap.size + 1, 3, none⟩ = some (.int .i64 c3) ∧ w'.cell? ⟨w.heap.size + 1, 4, none⟩ = some (.int .i64 c4) ∧ w'.cell? ⟨w.heap.size + 1, 5, none⟩ = some (.int .i64 c5))
    (first
      | go_keep
      | (refine ⟨(hgr2.cell_far _ ?_ ?_).trans ?_, (hgr2.cell_far _ ?_ ?_).trans ?_, (hgr2.cell_far _ ?_ ?_).trans ?_, (hgr2.cell_far _ ?_ ?_).trans ?_, (hgr2.cell_far _ ?_ ?_).trans ?_, (hgr2.cell_far _ ?_ ?_).trans ?_⟩ <;>
          first | (simp [Value.ownBlock]; omega) | (simp [*]; done))
      | (refine ⟨(hgr.cell_far _ ?_ ?_).trans ?_, (hgr.cell_far _ ?_ ?_).trans ?_, (hgr.cell_far _ ?_ ?_).trans ?_, (hgr.cell_far _ ?_ ?_).trans ?_, (hgr.cell_far _ ?_ ?_).trans ?_, (hgr.cell_far _ ?_ ?_).trans ?_⟩ <;>
          first | (simp; omega) | (simp [*]; done))
      | (refine ⟨(World.cell?_of_block (b4.block _ ?_)).trans ?_, (World.cell?_of_block (b4.block _ ?_)).trans ?_, (World.cell?_of_block (b4.block _ ?_)).trans ?_, (World.cell?_of_block (b4.block _ ?_)).trans ?_, (World.cell?_of_block (b4.block _ ?_)).trans ?_, (World.cell?_of_block (b4.block _ ?_)).trans ?_⟩ <;>
          first | (simp; omega) | (simp [*]; done)))
    (first
      | (refine step_app_hist _ (by rfl) (.tmp 36) (.tmp 37) (by rfl) W3.heap.size w.heap.size _ (by rfl) (by first | exact he1 _ _ | exact he2 _ _ _ | exact he3 _ _ _) (by omega) A m c' E (by rfl) (HDt3.out.later (by first | (repeat' first | exact RowKit.Below.refl _ _ | apply RowKit.Below.drew | (refine RowKit.Below.alloc ?_ (by first | omega | (simp; omega)) _)))) hm60 ?_; intro g' cap' xs w' ho he hgr; have hge := own_base ho; have hsz := hgr.size; try simp at hsz)
      | (refine step_append_lies _ (by rfl) (.tmp 38) (.tmp 40) 22 (by rfl) W3.heap.size 46 i0 _ 6 48 Try.underlying22 hi0 hz0 hz1 hz2 (by rfl) (by decide) _ m xs (by rfl) (own_block ho (by first | rfl | exact own_alloc ho _)) _ 1 1 [.float .f64 x, .int .i64 c1, .int .i64 c2, .int .i64 c3, .int .i64 c4, .int .i64 c5] (by rfl) (by rfl)
          (World.news_of_block (by first | exact he1 _ _ | exact (hgr.block _ (by first | (simp; done) | (simp; omega)) (by simp)).trans (he1 _ _) | exact (hgr.block _ (by first | (simp; done) | (simp; omega)) (by simp)).trans (he2 _ _ _) | exact (hgr.block _ (by first | (simp; done) | (simp; omega)) (by simp)).trans (he3 _ _ _))) (by simp [Value.oneCell']) (by decide) (by simp only [maxLen]; omega) (by omega) (by first | omega | (simp; omega)) _ (by rfl) ?_; intro g2 cap2 w2 ho2 hgr2 hat2 hlt2; have hge2 := own_base ho2; have hsz2 := hgr2.size; try simp at hsz2)
      | (go_at_call 10; refine (HM.out _ _ _ _ ho2 (he.snoc _ _ _ _ _ _)).mono ?_; rintro e w4 ⟨rfl, b4⟩))
  all_goals
    have hb4 : RowKit.Below w.heap.size w w4 := by
      refine RowKit.Below.trans (RowKit.Below.grown ?_ hgr2 ?_ ?_) (b4.mono (by omega))
      · repeat' first
          | exact HB3.out
          | (refine RowKit.Below.grown ?_ hgr ?_ ?_)
          | apply RowKit.Below.drew
          | (refine RowKit.Below.alloc ?_ ?_ _)
          | (simp; omega)
          | omega
          | (intro k hk; simp [Value.ownBlock] at hk; omega)
      · first | omega | (simp; omega)
      · intro k hk; simp [Value.ownBlock] at hk; omega
    go_wp2_with fail
    refine (awake_any _).mono ?_
    rintro e w7 ⟨rfl, b7⟩
    have hb7 := hb4.trans (b7.mono hb4.size)
    clear hb4 b7
    have hk : pn ≤ kn := M2.out
    have hpm : pn ≤ m := hEl.out ▸ M3.out
    cases hle : leF wd vd with
    | true =>
      have hq : pn ≤ qn := M1.out hle
      go_wp2
      go_ret
      exact ⟨rfl, hb7⟩
    | false =>
      go_wp2
      go_ret
      exact ⟨rfl, hb7⟩

section
variable {H : Type} {enc : TypeId × Value → H} {w : World} {base : Nat} {held : Bool}

/-- What comes in: a history, two lengths, one event more. -/
theorem open_grow {fuel : Nat} {cs : List Value} {x : DataW H × List MemPlace} (h : DataW.trod enc Try.prog w base (fun _ => true) held fuel 49 cs = some x) :
    ∃ (a : Option Addr) (n c wd vd b : Nat) (c1 c2 c3 c4 c5 : Int) (D : List Nat), cs = [.slice a n c, .float .f64 wd, .float .f64 vd, .float .f64 b, .int .i64 c1, .int .i64 c2, .int .i64 c3, .int .i64 c4, .int .i64 c5] ∧
      b < 18446744073709551616 ∧ Hst w w.heap.size a n D ∧ (∀ b ∈ D, b < 18446744073709551616) ∧ n ≤ c ∧ c ≤ maxLen := by
  obtain ⟨xs, m, _, _, hl, _, hf⟩ := DataW.trod_struct Try.underlying49 h
  rw [show Try.prog.cellsOf 49 = 9 from by kernel_rfl] at hl
  match cs, hl with
  | [v0, v1, v2, v3, v4, v5, v6, v7, v8], _ =>
    have h0 : DataW.trod enc Try.prog w base (fun _ => true) held m 22 (([v0, v1, v2, v3, v4, v5, v6, v7, v8].drop 0).take (Try.prog.cellsOf 22)) = xs[0]? := hf 0 _ rfl
    have h1 : DataW.trod enc Try.prog w base (fun _ => true) held m 23 (([v0, v1, v2, v3, v4, v5, v6, v7, v8].drop 1).take (Try.prog.cellsOf 23)) = xs[1]? := hf 1 _ rfl
    have h2 : DataW.trod enc Try.prog w base (fun _ => true) held m 23 (([v0, v1, v2, v3, v4, v5, v6, v7, v8].drop 2).take (Try.prog.cellsOf 23)) = xs[2]? := hf 2 _ rfl
    have h3 : DataW.trod enc Try.prog w base (fun _ => true) held m 46 (([v0, v1, v2, v3, v4, v5, v6, v7, v8].drop 3).take (Try.prog.cellsOf 46)) = xs[3]? := hf 3 _ rfl
    rw [show Try.prog.cellsOf 22 = 1 from by kernel_rfl] at h0
    rw [cellsOf23] at h1 h2
    rw [cellsOf46] at h3
    simp only [List.drop, List.take] at h0 h1 h2 h3
    match hx0 : xs[0]?, hx1 : xs[1]?, hx2 : xs[2]?, hx3 : xs[3]? with
    | some x0, some x1, some x2, some x3 =>
      rw [hx0] at h0
      rw [hx1] at h1
      rw [hx2] at h2
      rw [hx3] at h3
      obtain ⟨a, n, c, rfl⟩ := slice_of h0
      obtain ⟨wd, e1, _, _⟩ := trod_float Try.underlying23 h1
      obtain ⟨vd, e2, _, _⟩ := trod_float Try.underlying23 h2
      obtain ⟨b, c1, c2, c3, c4, c5, e3, hb⟩ := trod_done h3
      obtain ⟨D, hD, hDb, hlc, hcm⟩ := open_hist h0
      simp at e1 e2 e3
      obtain ⟨rfl, rfl, rfl, rfl, rfl, rfl⟩ := e3
      subst e1 e2
      exact ⟨a, n, c, wd, vd, b, c1, c2, c3, c4, c5, D, rfl, hb, hD, hDb, hlc, hcm⟩
    | none, _, _, _ => simp_all
    | some _, none, _, _ => simp_all
    | some _, some _, none, _ => simp_all
    | some _, some _, some _, none => simp_all

end

set_option maxHeartbeats 800000 in
set_option maxRecDepth 100000 in
theorem grows_lifted (os : Os) (started : os.Started) (H : Type) (enc : TypeId × Value → H) :
    ReturnsInHanded {} Try.checked os 7 .any (Rows.windowGrowsSpec.pre6 enc Try.prog Try.f7 Rows.windowGrowsRow.domain false) (Rows.windowGrowsSpec.post enc Try.prog Try.f7 false true false false) := by
  refine returnsInHanded_of_change (C := Try.checked) own started (by kernel_rfl) Try.func7
    (ChangeSpec.witness6 (enc := enc) (C := Try.checked) false ⟨#[], #[.agg #[.slice none 0 0, .float .f64 0, .float .f64 0, .float .f64 0, .int .i64 0, .int .i64 0, .int .i64 0, .int .i64 0, .int .i64 0]], []⟩ 8 (by kernel_rfl) (by kernel_rfl) (by kernel_rfl) (by kernel_rfl)) ?_
  intro W base args ds gs before hval0 hW _ _
  have hval : ∀ (j : Nat) t v, Try.f7.params[j]? = some t → args[j]? = some v → Value.okWide Try.prog W .any base t v := hval0
  have hW' := hW
  obtain ⟨p, q, hA0, hV, rfl, _, _⟩ := hW
  have hA : DataW.TrodAll enc Try.prog W 0 (fun _ => true) true Try.f7.params.toList args.toList ds p := hA0
  rw [Try.params7] at hA hval
  obtain ⟨v0, d0, rfl, rfl, h0⟩ := trodAll_one hA
  obtain ⟨rfl, rfl⟩ := trodVars_none hV
  obtain ⟨⟨cs⟩, rfl, _⟩ := okWide_struct Try.underlying49 (hval 0 49 v0 rfl rfl)
  have h0k := h0
  obtain ⟨fuel, hf⟩ := h0
  clear hA0 hval0
  simp only [List.append_nil] at hW'
  have hlt : ∀ y ∈ p, y.block < W.heap.size := fun y hy => by simpa using hW'.lt y (by simp [hy])
  obtain ⟨a, n, c, wd, vd, b, c1, c2, c3, c4, c5, D, rfl, hb, hD, hDb, hlc, hcm⟩ := open_grow (by simpa [Value.cells] using hf)
  refine (grows_law a n c wd vd b c1 c2 c3 c4 c5 hb D hDb hlc hcm W hD).mono fun e W' ⟨he, hb⟩ => ?_
  subst he
  exact ⟨_, rfl, _, _, _, [], _, [], hW', trodAll_mk1 (shut_bool Try.underlying4 _), trodAll_mk1 (Below.trod laidOut (by kernel_rfl) (of_decide_eq_true (by kernel_rfl)) h0k hb hlt), rfl, hb.frame _, fun h => by cases h⟩

theorem window_grows : Rows.WindowGrowsSaid :=
  OpenClaim.holds_of_wide 7 Try.f7 rfl rfl rfl rfl rfl rfl rfl ⟨rfl, rfl, rfl, rfl, rfl⟩ rfl rfl rfl rfl rfl (by kernel_rfl) Try.func7 (by kernel_rfl)
    (of_decide_eq_true (by kernel_rfl)) (by unfold Func.isWrapper; first | (rw [if_pos (by decide +kernel)]; kernel_rfl) | (rw [if_neg (by decide +kernel)]; exact ⟨rfl, rfl⟩))
    (fun os started H enc _ => grows_lifted os started H enc)

#print axioms window_grows

end Go.Proofs.Ytgabaljmepgeiaa
