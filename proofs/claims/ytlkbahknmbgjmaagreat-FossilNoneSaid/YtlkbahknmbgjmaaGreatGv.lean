/-
  A block that is turned, moved, or new, whatever the way that led there. slices.Insert at node.Entry: there is room; and there is none.
  No conditions.
-/
import Derived.Test.YtlkbahknmbgjmaaGreatFc
import Derived.Lib.Overlaps
import Derived.Lib.AppendZerosOnto
import Derived.Laws.NewBlocks
import Derived.Deep.RegionLaw
import Derived.RowKit
namespace Go.Proofs.YtlkbahknmbgjmaaGreat.Ev
open Go

/-- All is as it was, but for block x and new ones. -/
structure Turned (x : Nat) (w u : World) : Prop where
  size : w.heap.size ≤ u.heap.size
  keep : ∀ y, y < w.heap.size → y ≠ x → u.heap[y]? = w.heap[y]?
  os : u.os = w.os
  tape : u.tape = w.tape
  output : u.output = w.output

theorem Turned.refl (x : Nat) (w : World) : Turned x w w := ⟨Nat.le_refl _, fun _ _ _ => rfl, rfl, rfl, rfl⟩
theorem Turned.drew {x : Nat} {w u : World} (t : Turned x w u) : Turned x w u.drew := ⟨t.size, t.keep, t.os, t.tape, t.output⟩
theorem Turned.alloc {x : Nat} {w u : World} (t : Turned x w u) (o : Obj) : Turned x w (u.alloc o) :=
  ⟨by have := t.size; show _ ≤ (u.heap.push o).size; rw [Array.size_push]; omega, fun y hy hx => by
    rw [← t.keep y hy hx]
    show (u.heap.push o)[y]? = _
    have := t.size
    rw [Array.getElem?_push, if_neg (by omega)], t.os, t.tape, t.output⟩
theorem Turned.setCells {x : Nat} {w u : World} (t : Turned x w u) (o : Nat) (vs : List Value) : Turned x w (u.setCells x o vs) := by
  obtain ⟨o1, o2, o3⟩ := other_setCells x vs o u
  exact ⟨by rw [size_setCells]; exact t.size, fun y hy hx => by rw [heap_setCells _ _ _ _ _ hx]; exact t.keep y hy hx, o1.trans t.os, o2.trans t.tape, o3.trans t.output⟩
theorem Turned.setNew {x z : Nat} {w u : World} (t : Turned x w u) (hz : w.heap.size ≤ z) (o : Nat) (vs : List Value) : Turned x w (u.setCells z o vs) := by
  obtain ⟨o1, o2, o3⟩ := other_setCells z vs o u
  exact ⟨by rw [size_setCells]; exact t.size, fun y hy hx => by rw [heap_setCells _ _ _ _ _ (by omega)]; exact t.keep y hy hx, o1.trans t.os, o2.trans t.tape, o3.trans t.output⟩

theorem Stp.turn {μ : Mp} {h : Hp} {w u : World} (r : Rel μ h w) {b : Nat} {k g : Blk} {m : Lo} (hk : h.get b = .of k) (hm : μ b = some m) (t : Turned m.blk w u) (hbr : BR μ u g m) : Stp μ h w μ (h.set b (.of g)) u := by
  have hnx := r.nx
  have hb := (r.lt b m hm).1
  have hg : ∀ x, x < h.next → (h.set b (.of g)).get x = if x = b then .of g else h.get x := fun x hx => get_set _ (by omega) (by omega)
  have any : ∀ x l n, (h.set b (.of g)).get x = .of l → μ x = some n → ∃ l, h.get x = .of l := fun x l n hl hx => by
    rw [hg x (r.lt x n hx).1] at hl
    by_cases e : x = b
    · subst e; exact ⟨k, hk⟩
    · rw [if_neg e] at hl; exact ⟨_, hl⟩
  exact {
    le := μ.le_refl
    new := fun _ _ h => .inl h
    rel := by
      refine ⟨fun x n hx => ⟨(r.lt x n hx).1, by have := (r.lt x n hx).2; have := t.size; omega⟩, fun x l n hl hx => ?_, fun x y l1 l2 n1 n2 h1 h2 hx hy hne => ?_, hnx, fun x hx hx' => ?_⟩
      · rw [hg x (r.lt x n hx).1] at hl
        by_cases e : x = b
        · rw [if_pos e] at hl; cases hl
          subst e
          rw [hm] at hx; cases hx
          exact hbr
        · rw [if_neg e] at hl
          exact (r.br x l n hl hx).keep μ.le_refl (t.keep _ (r.lt x n hx).2 (r.inj x b l k n m hl hk hx hm e))
      · obtain ⟨q1, a1⟩ := any x l1 n1 h1 hx
        obtain ⟨q2, a2⟩ := any y l2 n2 h2 hy
        exact r.inj x y q1 q2 n1 n2 a1 a2 hx hy hne
      · have hx : h.next ≤ x := hx
        have : (h.set b (.of g)).get x = if x = b then .of g else h.get x := get_set _ hx' (by omega)
        rw [this, if_neg (by omega)]; exact r.fresh x hx hx'
    next := Nat.le_refl _
    same := fun x hx hn => by rw [hg x hx, if_neg (fun e => by subst e; rw [hm] at hn; cases hn)]
    live := fun x l n hl hx => any x l n hl hx
    foot := fun x hx0 hx => t.keep x hx0 fun e => hx ⟨b, k, m, hk, hm, e.symm⟩
    os := t.os
    tape := t.tape
    output := t.output
    size := t.size }

/-- The row b lives on as a new one. -/
theorem Stp.move {μ : Mp} {h : Hp} {w u : World} (r : Rel μ h w) {b : Nat} {k : Blk} {m : Lo} (hk : h.get b = .of k) (hm : μ b = some m) (hn : h.next < 65536) {g : Blk} {p : Lo} (hp : p.blk = m.blk) (t : Turned m.blk w u)
    (hbr : BR (upd μ h.next p) u g p) : Stp μ h w (upd μ h.next p) ⟨Nat.succ h.next, (puts Bo 8 h.next).put (.of g) (h.set b .no).t⟩ u := by
  have hid : μ h.next = none := by
    cases e : μ h.next with
    | none => rfl
    | some n => have := (r.lt _ n e).1; omega
  have hb := (r.lt b m hm).1
  have hsz := t.size
  have hg : ∀ x, x < 65536 → (⟨Nat.succ h.next, (puts Bo 8 h.next).put (.of g) (h.set b .no).t⟩ : Hp).get x = if x = h.next then .of g else if x = b then .no else h.get x := fun x hx => by
    have := get_push (h := h.set b .no) g hx hn
    rw [get_kill (by omega) hx] at this
    exact this
  have hold : ∀ x n, upd μ h.next p x = some n → x ≠ h.next → μ x = some n := fun x n hx e => by rwa [upd_ne p e] at hx
  have old : ∀ x l n, (⟨Nat.succ h.next, (puts Bo 8 h.next).put (.of g) (h.set b .no).t⟩ : Hp).get x = .of l → μ x = some n → x ≠ b ∧ h.get x = .of l := fun x l n hl hx => by
    have hlt := (r.lt x n hx).1
    rw [hg x (by omega), if_neg (by omega)] at hl
    split at hl
    · cases hl
    · rename_i e; exact ⟨e, hl⟩
  exact {
    le := le_upd hid
    new := fun x n hx => by
      by_cases e : x = h.next
      · subst e; rw [upd_same] at hx; cases hx; exact .inr ⟨Nat.le_refl _, .inr ⟨b, k, m, hk, hm, hp.symm⟩⟩
      · exact .inl (hold x n hx e)
    rel := by
      refine ⟨fun x n hx => ?_, fun x l n hl hx => ?_, fun x y l1 l2 n1 n2 h1 h2 hx hy hne => ?_, hn, fun x hx hx' => ?_⟩
      · by_cases e : x = h.next
        · subst e; rw [upd_same] at hx; cases hx
          have := (r.lt b m hm).2
          exact ⟨Nat.lt_succ_self _, by omega⟩
        · have := r.lt x n (hold x n hx e)
          exact ⟨Nat.lt_succ_of_lt this.1, by omega⟩
      · by_cases e : x = h.next
        · subst e; rw [upd_same] at hx; cases hx
          rw [hg _ hn, if_pos rfl] at hl
          cases hl; exact hbr
        · have hx' := hold x n hx e
          obtain ⟨e2, hl'⟩ := old x l n hl hx'
          exact (r.br x l n hl' hx').keep (le_upd hid) (t.keep _ (r.lt x n hx').2 (r.inj x b l k n m hl' hk hx' hm e2))
      · by_cases e : x = h.next
        · by_cases e' : y = h.next
          · exact absurd (e.trans e'.symm) hne
          · subst e; rw [upd_same] at hx; cases hx
            have hy' := hold y n2 hy e'
            obtain ⟨e2, hl'⟩ := old y l2 n2 h2 hy'
            rw [hp]; exact (r.inj y b l2 k n2 m hl' hk hy' hm e2).symm
        · have hx' := hold x n1 hx e
          obtain ⟨e2, hl'⟩ := old x l1 n1 h1 hx'
          by_cases e' : y = h.next
          · subst e'; rw [upd_same] at hy; cases hy
            rw [hp]; exact r.inj x b l1 k n1 m hl' hk hx' hm e2
          · have hy' := hold y n2 hy e'
            obtain ⟨e3, hl''⟩ := old y l2 n2 h2 hy'
            exact r.inj x y l1 l2 n1 n2 hl' hl'' hx' hy' hne
      · have hx : Nat.succ h.next ≤ x := hx
        rw [hg x hx', if_neg (by omega), if_neg (by omega)]; exact r.fresh x (by omega) hx'
    next := Nat.le_succ _
    same := fun x hx hx0 => by
      rw [hg x (by have := r.nx; omega), if_neg (by omega), if_neg (fun e => by subst e; rw [hm] at hx0; cases hx0)]
    live := fun x l n hl hx => ⟨l, (old x l n hl hx).2⟩
    foot := fun x hx0 hx => t.keep x hx0 fun e => hx ⟨b, k, m, hk, hm, e.symm⟩
    os := t.os
    tape := t.tape
    output := t.output
    size := hsz }

/-- A new block, and maybe others that nobody knows. -/
theorem Stp.anew {μ : Mp} {h : Hp} {w u : World} (r : Rel μ h w) (hn : h.next < 65536) {g : Blk} {p : Lo} (hp : w.heap.size ≤ p.blk) (hp' : p.blk < u.heap.size) (t : Turned p.blk w u)
    (hbr : BR (upd μ h.next p) u g p) : Stp μ h w (upd μ h.next p) ⟨Nat.succ h.next, (puts Bo 8 h.next).put (.of g) h.t⟩ u := by
  have hid : μ h.next = none := by
    cases e : μ h.next with
    | none => rfl
    | some n => have := (r.lt _ n e).1; omega
  have hsz := t.size
  have hkeep : ∀ y, y < w.heap.size → u.heap[y]? = w.heap[y]? := fun y hy => t.keep y hy (by omega)
  have hg : ∀ x, x < 65536 → (⟨Nat.succ h.next, (puts Bo 8 h.next).put (.of g) h.t⟩ : Hp).get x = if x = h.next then .of g else h.get x := fun x hx => get_push (h := h) g hx hn
  have hold : ∀ x n, upd μ h.next p x = some n → x ≠ h.next → μ x = some n := fun x n hx e => by rwa [upd_ne p e] at hx
  have old : ∀ x l n, (⟨Nat.succ h.next, (puts Bo 8 h.next).put (.of g) h.t⟩ : Hp).get x = .of l → μ x = some n → h.get x = .of l := fun x l n hl hx => by
    have hlt := (r.lt x n hx).1
    rwa [hg x (by omega), if_neg (by omega)] at hl
  exact {
    le := le_upd hid
    new := fun x n hx => by
      by_cases e : x = h.next
      · subst e; rw [upd_same] at hx; cases hx; exact .inr ⟨Nat.le_refl _, .inl hp⟩
      · exact .inl (hold x n hx e)
    rel := by
      refine ⟨fun x n hx => ?_, fun x l n hl hx => ?_, fun x y l1 l2 n1 n2 h1 h2 hx hy hne => ?_, hn, fun x hx hx' => ?_⟩
      · by_cases e : x = h.next
        · subst e; rw [upd_same] at hx; cases hx
          exact ⟨Nat.lt_succ_self _, hp'⟩
        · have := r.lt x n (hold x n hx e)
          exact ⟨Nat.lt_succ_of_lt this.1, by omega⟩
      · by_cases e : x = h.next
        · subst e; rw [upd_same] at hx; cases hx
          rw [hg _ hn, if_pos rfl] at hl
          cases hl; exact hbr
        · have hx' := hold x n hx e
          exact (r.br x l n (old x l n hl hx') hx').keep (le_upd hid) (hkeep _ (r.lt x n hx').2)
      · by_cases e : x = h.next
        · by_cases e' : y = h.next
          · exact absurd (e.trans e'.symm) hne
          · subst e; rw [upd_same] at hx; cases hx
            have := (r.lt y n2 (hold y n2 hy e')).2
            omega
        · have hx' := hold x n1 hx e
          by_cases e' : y = h.next
          · subst e'; rw [upd_same] at hy; cases hy
            have := (r.lt x n1 hx').2
            omega
          · have hy' := hold y n2 hy e'
            exact r.inj x y l1 l2 n1 n2 (old x l1 n1 h1 hx') (old y l2 n2 h2 hy') hx' hy' hne
      · have hx : Nat.succ h.next ≤ x := hx
        rw [hg x hx', if_neg (by omega)]; exact r.fresh x (by omega) hx'
    next := Nat.le_succ _
    same := fun x hx hx0 => by
      rw [hg x (by have := r.nx; omega), if_neg (by omega)]
    live := fun x l n hl hx => ⟨l, old x l n hl hx⟩
    foot := fun x hx0 _ => hkeep x hx0
    os := t.os
    tape := t.tape
    output := t.output
    size := hsz }

end Go.Proofs.YtlkbahknmbgjmaaGreat.Ev

namespace Go.Proofs.YtlkbahknmbgjmaaGreat
open Go Go.RowKit

theorem wp_copy_run3 {P : Program} (w : World) {o : Oper} {a : Act} {K : Act → World → Prop} {Q : Exit → Act → World → Prop} (d s : Operand) (t t' : TypeId)
    (ho : o.op = .call { callee := .builtin .copy, args := #[d, s], argTypes := #[t, t'] }) (v u : Value) (hd : a.eval d = v) (hs : a.eval s = u) {v' : Value} {w' : World}
    (hr : (Builtin.copy_ #[t, t'] o.type #[v, u]).run P w = .ok v' w') (h : K (a.put o.dst v') w') : o.wp P a w K Q := by
  unfold Oper.wp execOp
  simp only [ho, resolve, invoke, builtin, Sem.run_bind, Sem.run_pure, Result.andThen_ok, List.map_toArray, List.map_cons, List.map_nil, hd, hs, hr]
  exact h
theorem wpList_copy_run3 {P : Program} (w : World) {ops : Array Oper} {rest : List Oper} {o : Oper} {a : Act} {Q : Exit → Act → World → Prop} (hgd : o.guard = none) (d s : Operand) (t t' : TypeId)
    (ho : o.op = .call { callee := .builtin .copy, args := #[d, s], argTypes := #[t, t'] }) (v u : Value) (hd : a.eval d = v) (hs : a.eval s = u) {v' : Value} {w' : World}
    (hr : (Builtin.copy_ #[t, t'] o.type #[v, u]).run P w = .ok v' w') (h : wpList P ops Q rest (a.put o.dst v') w') : wpList P ops Q (o :: rest) a w :=
  wpList_plain hgd fun _ hK => wp_copy_run3 w d s t t' ho v u hd hs hr (hK _ _ h)
theorem step_copy_run3 {P : Program} {ops : Array Oper} {o : Oper} {a : Act} {w : World} {K : Act → World → Prop} {Q : Exit → Act → World → Prop} {E : Prop}
    (hg : o.guard = none) (d x : Operand) (dT sT : TypeId) (hop : o.op = Op.call { callee := Callee.builtin Builtin.copy, args := #[d, x], argTypes := #[dT, sT] })
    (v u : Value) (hd : a.eval d = v) (hx : a.eval x = u) {v' : Value} {w' : World} (hr : (Builtin.copy_ #[dT, sT] o.type #[v, u]).run P w = .ok v' w') (hK : K (a.put o.dst v') w') :
    if Region.wanted o (yielded ops a.tmps) = true then Oper.wp P o a w K Q else E := by
  have hw : Region.wanted o (yielded ops a.tmps) = true := by simp [Region.wanted, hg]
  rw [if_pos hw]
  unfold Oper.wp
  simp [execOp, hop, resolve, invoke, builtin, hd, hx, hr, Result.andThen]
  exact hK

/-- copy of entries. -/
theorem copy_entries (w : World) (ty : TypeId) (b o dl dc vb vo sl sc r : Nat) (vs : List Value) (hr : r = min sl dl) (hl : vs.length = r * 3) (hv : w.rangeAt vb vo vs) (ht : w.there b o (r * 3)) (h1 : ∀ v ∈ vs, v.oneCell' = true) :
    (Builtin.copy_ #[335, 335] ty #[.slice (some ⟨b, o, none⟩) dl dc, .slice (some ⟨vb, vo, none⟩) sl sc]).run Tryz.prog w = .ok (goInt r) (w.setCells b o vs) := by
  have hf := Ev.firstCells_slice (P := Tryz.prog) w 3 r vb vo sl sc vs hv hl
  have hst := Ev.storeCells_run (P := Tryz.prog) (w := w) (b := b) (o := o) (vs := vs) (by rw [hl]; exact ht) h1
  have hz : ∀ w : World, (sizeOf 343).run Tryz.prog w = .ok 3 w := fun w => by kernel_rfl
  have hu : Tryz.prog.underlying 335 = some (.slice 343) := by kernel_rfl
  have hlen : ∀ (u : World) ad l c, (Builtin.lenOf (.slice ad l c)).run Tryz.prog u = .ok l u := fun _ _ _ _ => rfl
  simp [Builtin.copy_, run_underlying hu, hlen, hz, ← hr, hf, hst, goInt]

end Go.Proofs.YtlkbahknmbgjmaaGreat
