/-
  slices.Insert as the interpreter takes it.
  No conditions.
-/
import Derived.Test.YtlkbahknmbgjmaaGreatGe
import Derived.Test.YtlkbahknmbgjmaaGreatGf
import Derived.Test.YtlkbahknmbgjmaaGreatFd
import Derived.Test.YtlkbahknmbgjmaaGreatFh
import Derived.Laws.LoneSync
namespace Go.Proofs.YtlkbahknmbgjmaaGreat.Ev
open Go Go.RowKit

def idle (f : FuncId) : Bool := Nat.beq f 292
theorem idle_ok : ∀ g, idle g = true → Harm Tryz.prog g := fun g h => by
  rw [Nat.eq_of_beq_eq_true h]; exact harm292

/-- The cells behind an insertion. -/
noncomputable def newRow (i : Nat) (cs vs : List AV) : List AV := appL (takeL cs (i * 3)) (appL vs (dropL cs (i * 3)))
noncomputable def pInsE : Fc := ⟨fun ca l h k => match l with
  | [s, .int .i64 (.ofNat i), v] => slen s fun sn =>
    bif? ((func Tryz.prog idle 100000 Tryz.f234).of ca l h k)
      (match s, v with
       | .slc b o _ cap ex, .slc vb vo m _ _ => h.blk? b fun bl => h.blk? vb fun vk =>
          bif? (bif? (bif? (k (.slc b o (sn + m) cap ex) (h.set b (.of (bl.wth (Cs.puts (newRow i (Cs.row (sn * 3) o bl.cs) (Cs.row (m * 3) vo vk.cs)) o bl.cs))))) .no (Nat.ble (o + (sn + m) * 3) bl.size))
                (bif? (regrow 3 bl.sb (drop? h b ex bl.gr) (sn + m) (newRow i (Cs.row (sn * 3) o bl.cs) (Cs.row (m * 3) vo vk.cs)) k) .no (moves 3 sn cap o ex bl))
                (Nat.ble (sn + m) cap))
            .no (Nat.blt i sn && Nat.ble 1 m && Nat.ble (sn + m) 1048576 && Nat.ble (o + sn * 3) bl.size && Nat.ble (vo + m * 3) vk.size && !vk.sb && !Nat.beq vb b && Nat.ble sn cap)
       | _, _ => .no) (Nat.beq i sn)
  | _ => .no⟩

/-! ### Cells in three parts -/
theorem rangeAt_app {w : World} {b o : Nat} {x y : List Value} (hx : w.rangeAt b o x) (hy : w.rangeAt b (o + x.length) y) : w.rangeAt b o (x ++ y) := fun j v hj => by
  rcases Nat.lt_or_ge j x.length with h | h
  · rw [List.getElem?_append_left h] at hj; exact hx j v hj
  · rw [List.getElem?_append_right h] at hj
    have := hy (j - x.length) v hj
    rwa [Nat.add_assoc, show x.length + (j - x.length) = j by omega] at this
theorem rangeAt_drew {w : World} {b o : Nat} {x : List Value} (h : w.rangeAt b o x) : w.drew.rangeAt b o x := h
theorem there_drew {w : World} {b o n : Nat} (h : w.there b o n) : w.drew.there b o n := h
theorem there_sub {w : World} {b o n : Nat} (h : w.there b o n) (p m : Nat) (hle : p + m ≤ n) : w.there b (o + p) m := fun j hj => by
  have := h (p + j) (by omega)
  rwa [← Nat.add_assoc] at this

theorem three_tail {w : World} {b o : Nat} {hd nw tl : List Value} (hh : w.rangeAt b o hd) (ht : w.there b o (hd.length + nw.length + tl.length)) :
    ((w.setCells b (o + (hd.length + nw.length)) tl).setCells b (o + hd.length) nw).rangeAt b o (hd ++ (nw ++ tl)) := by
  refine rangeAt_app ?_ (rangeAt_app ?_ ?_)
  · exact World.rangeAt_setCells_apart (World.rangeAt_setCells_apart hh _ _ _ (by omega)) _ _ _ (by omega)
  · exact World.rangeAt_setCells_same _ _ _ _ (World.there_setCells (there_sub ht _ _ (by omega)) _ _ _)
  · have := World.rangeAt_setCells_same w b (o + (hd.length + nw.length)) tl (there_sub ht _ _ (by omega))
    have := World.rangeAt_setCells_apart this b (o + hd.length) nw (by omega)
    rw [Nat.add_assoc]; exact this
theorem three_mid {w : World} {b o : Nat} {hd nw tl : List Value} (hh : w.rangeAt b o hd) (ht : w.there b o (hd.length + nw.length + tl.length)) :
    (((w.setCells b (o + hd.length) nw).drew).setCells b (o + (hd.length + nw.length)) tl).rangeAt b o (hd ++ (nw ++ tl)) := by
  have t1 : (w.setCells b (o + hd.length) nw).drew.there b (o + (hd.length + nw.length)) tl.length := World.there_setCells (there_sub ht _ _ (by omega)) _ _ _
  refine rangeAt_app ?_ (rangeAt_app ?_ ?_)
  · have h1 : (w.setCells b (o + hd.length) nw).drew.rangeAt b o hd := World.rangeAt_setCells_apart hh _ _ _ (by omega)
    exact World.rangeAt_setCells_apart h1 _ _ _ (by omega)
  · have h1 : (w.setCells b (o + hd.length) nw).drew.rangeAt b (o + hd.length) nw := World.rangeAt_setCells_same _ _ _ _ (there_sub ht _ _ (by omega))
    exact World.rangeAt_setCells_apart h1 _ _ _ (by omega)
  · have := World.rangeAt_setCells_same _ b (o + (hd.length + nw.length)) tl t1
    rwa [← Nat.add_assoc] at this ⊢

theorem newRow_rel {μ : Mp} {cs vs : List AV} {xs ys : List Value} (i : Nat) (h1 : VRs μ cs xs) (h2 : VRs μ vs ys) : VRs μ (newRow i cs vs) (xs.take (i * 3) ++ (ys ++ xs.drop (i * 3))) := by
  unfold newRow
  rw [appL_eq, appL_eq, takeL_eq, dropL_eq]
  exact (h1.take _).app (h2.app (h1.drop _))

/-- A row of its own. -/
theorem BR.row {ν : Mp} {u : World} {blk base ext : Nat} {sb : Bool} {l : List AV} {vs : List Value} (hl : VRs ν l vs) (h1 : ∀ v ∈ vs, v.oneCell' = true) (hc : u.rangeAt blk base vs)
    (hth : u.there blk base (l.length + ext * 3)) (hsb : sb = false → ∀ o, u.frozen? ⟨blk, o, none⟩ = false) : BR ν u (mkBlk 3 true sb l) ⟨blk, base, ext⟩ := by
  obtain ⟨c1, c2⟩ := cells_ok 3 l
  have hsz : (mkBlk 3 true sb l).size = l.length := len_eq l
  refine ⟨by rw [hsz]; exact c1, fun i hi => ?_, fun i hi => ?_, fun h => (by cases h), hsb⟩
  · rw [hsz] at hi
    obtain ⟨v, hv, hr⟩ := hl.get (i := i) (x := l[i]) (by simp [hi])
    refine ⟨v, hc i v hv, ?_, h1 v (List.mem_of_getElem? hv)⟩
    show VR ν (Cs.get i (Ev.cells 3 l)) v
    rw [c2 i hi, List.getElem?_eq_getElem hi]; exact hr
  · rw [hsz] at hi
    exact hth i hi

/-- A block with new cells in it. -/
theorem BR.over {μ : Mp} {w u : World} {k : Blk} {m : Lo} (r : BR μ w k m) {o : Nat} {l : List AV} {vs : List Value} (hl : VRs μ l vs) (h1 : ∀ v ∈ vs, v.oneCell' = true)
    (hc : u.rangeAt m.blk (m.base + o) vs) (hs : ∀ j, (j < m.base + o ∨ m.base + o + vs.length ≤ j) → u.cell? ⟨m.blk, j, none⟩ = w.cell? ⟨m.blk, j, none⟩)
    (hsome : ∀ j, (w.cell? ⟨m.blk, j, none⟩).isSome = true → (u.cell? ⟨m.blk, j, none⟩).isSome = true) (hfz : ∀ j, u.frozen? ⟨m.blk, j, none⟩ = w.frozen? ⟨m.blk, j, none⟩)
    {c : Cs} (hok : CsOk k.size c) (hget : ∀ j, j < k.size → Cs.get j c = if o ≤ j ∧ j < o + l.length then l[j - o]?.getD .top else Cs.get j k.cs) : BR μ u (k.wth c) m where
  ok := hok
  cell i hi := by
    have hi : i < k.size := hi
    show ∃ v, _ ∧ VR μ (Cs.get i c) v ∧ _
    rw [hget i hi]
    have hlen := hl.length
    by_cases h : o ≤ i ∧ i < o + l.length
    · rw [if_pos h]
      obtain ⟨j, rfl⟩ : ∃ j, i = o + j := ⟨i - o, by omega⟩
      have e : o + j - o = j := by omega
      rw [e]
      obtain ⟨v, hv, hr⟩ := hl.get (i := j) (x := l[j]'(by omega)) (by simp)
      refine ⟨v, ?_, by rw [List.getElem?_eq_getElem (by omega)]; exact hr, h1 v (List.mem_of_getElem? hv)⟩
      rw [← Nat.add_assoc]; exact hc j v hv
    · rw [if_neg h]
      obtain ⟨v, h2, h3⟩ := r.cell i hi
      exact ⟨v, by rw [hs _ (by omega)]; exact h2, h3⟩
  there i hi := ⟨hsome _ (r.there i hi).1, by rw [hfz]; exact (r.there i hi).2⟩
  gr := r.gr
  sb h0 x := by rw [hfz]; exact r.sb h0 x

end Go.Proofs.YtlkbahknmbgjmaaGreat.Ev
