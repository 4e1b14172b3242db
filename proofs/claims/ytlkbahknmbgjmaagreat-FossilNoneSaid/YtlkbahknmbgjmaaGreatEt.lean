/-
  A region whose order is open: heaps, frames and readers along the run in the order of the text.
  No conditions.
-/
import Derived.Test.YtlkbahknmbgjmaaGreatEs
import Derived.Orders
namespace Go.Proofs.YtlkbahknmbgjmaaGreat.Ev
open Go

theorem gets_mod (α : Type) : ∀ (n i : Nat), gets α n (i % 4 ^ n) = gets α n i
  | 0, _ => rfl
  | n + 1, i => by
    show (⟨fun t => (gets α n (Nat.div (i % 4 ^ (n + 1)) 4)).get ((acs (Nat.mod (i % 4 ^ (n + 1)) 4)).pr (QT α n) t)⟩ : Gt α (n + 1)) = ⟨fun t => (gets α n (Nat.div i 4)).get ((acs (Nat.mod i 4)).pr (QT α n) t)⟩
    have e1 : Nat.mod (i % 4 ^ (n + 1)) 4 = Nat.mod i 4 := by
      show i % 4 ^ (n + 1) % 4 = i % 4
      rw [Nat.pow_succ, Nat.mul_comm, Nat.mod_mul_right_mod]
    have e2 : Nat.div (i % 4 ^ (n + 1)) 4 = Nat.div i 4 % 4 ^ n := by
      show i % 4 ^ (n + 1) / 4 = i / 4 % 4 ^ n
      rw [Nat.pow_succ, Nat.mul_comm, Nat.mod_mul_right_div_self]
    rw [e1, e2, gets_mod α n]
theorem get_mod (h : Hp) (b : Nat) : h.get (b % 65536) = h.get b := by
  show (gets Bo 8 (b % 65536)).get h.t = _
  have := gets_mod Bo 8 b
  rw [show (4 : Nat) ^ 8 = 65536 from rfl] at this
  rw [this]; rfl
theorem Sub.h0 (H : Hp) : Sub Ev.h0 H := fun b k h => by
  have : Ev.h0.get b = .no := gets_all Bo .no 8 b
  rw [this] at h; cases h

theorem Stp.made {μ0 : Mp} {h : Hp} {w0 : World} {μ : Mp} {H : Hp} {w w' : World} (s : Stp μ0 h w0 μ H w) {id : Nat} {k : Blk} {m : Lo} {x : Obj} (hid : μ id = none) (hget : H.get id = .of k) (h1 : h.next ≤ id) (h2 : id < H.next)
    (hw : New w w' x) (hblk : m.blk = w.heap.size) (hbr : BR (upd μ id m) w' k m) : Stp μ0 h w0 (upd μ id m) H w' where
  le := Mp.le_trans s.le (le_upd hid)
  new c n hc := by
    by_cases e : c = id
    · subst e; rw [upd_same] at hc; cases hc
      exact .inr ⟨h1, .inl (by rw [hblk]; exact s.size)⟩
    · rw [upd_ne m e] at hc; exact s.new c n hc
  rel := s.rel.add hw hid h2 hget (fun _ _ _ => rfl) (Nat.le_refl _) s.rel.nx s.rel.fresh hblk hbr
  next := s.next
  same := s.same
  live := s.live
  foot x hx hn := by rw [hw.old (Nat.lt_of_lt_of_le hx s.size)]; exact s.foot x hx hn
  os := hw.os.trans s.os
  tape := hw.tape.trans s.tape
  output := hw.output.trans s.output
  size := by rw [hw.size]; have := s.size; omega

section
variable {P : Program} {nt : Nat} {ops : List Oper} {b : Nat} {tr : Nat → Tr} {sp : Nat → Sp}

theorem bef_ready {S : Nat → Prop} (hS : ∀ i o, ops[i]? = some o → S i → ∀ e ∈ o.after.toList, Region.binds .any e = true → S e.on)
    (hlt : ∀ i o, ops[i]? = some o → ∀ e ∈ o.after.toList, Region.binds .any e = true → e.on < i) {i : Nat} {o : Oper} (ho : ops[i]? = some o) (hi : ∀ e ∈ o.after.toList, Region.binds .any e = true → S e.on) : ∀ j, ((befs ops []).getD i 0).testBit j = true → S j := by
  intro j hj
  obtain ⟨r, h1, h2, h3⟩ := befs_eq ops []
  simp only [List.nil_append] at h1 h3
  rw [h1, List.getD_eq_getElem?_getD, h3 i o ho, Option.getD_some] at hj
  obtain ⟨e, he, hb, hj⟩ := gbef_bit hj
  rcases hj with hj | hj
  · subst hj; exact hi e he hb
  · have hlt' := hlt i o ho e he hb
    rw [List.getD_eq_getElem?_getD, List.getElem?_take, if_pos hlt', ← List.getD_eq_getElem?_getD, ← h1] at hj
    exact bef_closed hS hlt e.on (hi e he hb) j hj

/-- A run in the order of the text. -/
structure Ctx (P : Program) (nt : Nat) (ops : List Oper) (b : Nat) (tr : Nat → Tr) (sp : Nat → Sp) : Prop where
  ntl : nt ≤ 250
  ok : OkX ops (infs P ops)
  st : ∀ i x, (infs P ops)[i]? = some x → StepOk P nt ops (infs P ops) b x (tr i) (sp i) (tr (i + 1))
  hs : (tr 0).hs = []
  ids : b + cnt (fun y => isA y.cl) (infs P ops) ops.length ≤ 65536

/-! ### Frames -/
theorem Ctx.fr_succ (C : Ctx P nt ops b tr sp) {i : Nat} {x : Inf} (hx : (infs P ops)[i]? = some x) (t : Nat) (ht : t < 256) : (fget t).get (tr (i + 1)).fr = if x.o.dst = some t then (sp i).v else (fget t).get (tr i).fr := by
  have s := C.st i x hx
  have hd := s.dst
  rw [s.fr]
  generalize x.o.dst = d at hd ⊢
  cases d with
  | none => simp [dst]
  | some d =>
    have hlt := dstOk_lt (d := d) hd
    have := C.ntl
    show (fget t).get ((fput d).put (sp i).v (tr i).fr) = _
    by_cases e : t = d
    · subst e; rw [fget_fput t ht, if_pos rfl]
    · rw [fget_fput_ne d t (Nat.lt_of_lt_of_le hlt (by omega)) ht e, if_neg (fun h => e (Option.some.inj h).symm)]

theorem Ctx.fr_kept (C : Ctx P nt ops b tr sp) {t : Nat} (ht : t < 256) {p : Nat} : ∀ {q : Nat}, p ≤ q → q ≤ ops.length → (∀ i x, p ≤ i → i < q → (infs P ops)[i]? = some x → x.o.dst ≠ some t) → (fget t).get (tr q).fr = (fget t).get (tr p).fr
  | q, hpq, hq, h => by
    by_cases e : p = q
    · subst e; rfl
    · obtain ⟨q, rfl⟩ : ∃ r, q = r + 1 := ⟨q - 1, by omega⟩
      have hlt : q < (infs P ops).length := by rw [infs_length]; omega
      have hx : (infs P ops)[q]? = some (infs P ops)[q] := List.getElem?_eq_getElem hlt
      rw [C.fr_succ hx t ht, if_neg (h q _ (by omega) (by omega) hx)]
      exact C.fr_kept ht (by omega) (by omega) fun i x h1 h2 => h i x h1 (by omega)

theorem Ctx.one (C : Ctx P nt ops b tr sp) {i j : Nat} {x y : Inf} (hx : (infs P ops)[i]? = some x) (hy : (infs P ops)[j]? = some y) {d : Tmp} (h1 : x.o.dst = some d) (h2 : y.o.dst = some d) : i = j := by
  have := C.ok.one x (List.mem_of_getElem? hx) y (List.mem_of_getElem? hy) d h1 h2
  rwa [(infs_at hx).1, (infs_at hy).1] at this

theorem Ctx.fr_written (C : Ctx P nt ops b tr sp) {i : Nat} {x : Inf} (hx : (infs P ops)[i]? = some x) {t : Nat} (ht : t < 256) (hd : x.o.dst = some t) {q : Nat} (hq : i < q) (hn : q ≤ ops.length) : (fget t).get (tr q).fr = (sp i).v := by
  rw [C.fr_kept ht (p := i + 1) hq hn fun j y h1 h2 hy hd' => by have := C.one hx hy hd hd'; omega, C.fr_succ hx t ht, if_pos hd]

/-! ### Heaps -/
def mkA (all : List Inf) (b : Nat) (sp : Nat → Sp) (x : Inf) : Option (Nat × Blk) := if isA x.cl && (sp x.i).wt then some (b + countA all x, (sp x.i).k) else none
def ahead (all : List Inf) (b : Nat) (sp : Nat → Sp) (p : Nat) : List (Nat × Blk) := (all.drop p).filterMap (mkA all b sp)
/-- The heap at p, with the blocks that are made from there on. -/
noncomputable def Hh (P : Program) (ops : List Oper) (b : Nat) (tr : Nat → Tr) (sp : Nat → Sp) (p : Nat) : Hp := lay (ahead (infs P ops) b sp p) (tr p).h

theorem ahead_at {all : List Inf} {p : Nat} {x : Inf} (hx : all[p]? = some x) : ahead all b sp p = match mkA all b sp x with | some q => q :: ahead all b sp (p + 1) | none => ahead all b sp (p + 1) := by
  unfold ahead
  have hlt := (List.getElem?_eq_some_iff.1 hx).1
  have hg := (List.getElem?_eq_some_iff.1 hx).2
  rw [List.drop_eq_getElem_cons hlt, hg, List.filterMap_cons]
  cases mkA all b sp x <;> rfl
theorem ahead_end {all : List Inf} {p : Nat} (h : all.length ≤ p) : ahead all b sp p = [] := by
  unfold ahead; rw [List.drop_eq_nil_of_le h]; rfl

theorem ahead_mem {all : List Inf} {p : Nat} {q : Nat × Blk} (h : q ∈ ahead all b sp p) : ∃ i x, p ≤ i ∧ all[i]? = some x ∧ isA x.cl = true ∧ (sp x.i).wt = true ∧ q = (b + countA all x, (sp x.i).k) := by
  unfold ahead at h
  obtain ⟨x, hx, hm⟩ := List.mem_filterMap.1 h
  obtain ⟨j, hj⟩ := List.getElem?_of_mem hx
  rw [List.getElem?_drop] at hj
  unfold mkA at hm
  split at hm
  · rename_i hc
    simp only [Bool.and_eq_true] at hc
    exact ⟨p + j, x, by omega, hj, hc.1, hc.2, (Option.some.inj hm).symm⟩
  · cases hm
theorem ahead_in {all : List Inf} {p i : Nat} {x : Inf} (hp : p ≤ i) (hx : all[i]? = some x) (ha : isA x.cl = true) (hw : (sp x.i).wt = true) : (b + countA all x, (sp x.i).k) ∈ ahead all b sp p := by
  unfold ahead
  refine List.mem_filterMap.2 ⟨x, ?_, by unfold mkA; rw [ha, hw]; rfl⟩
  refine List.mem_of_getElem? (i := i - p) ?_
  rw [List.getElem?_drop, show p + (i - p) = i by omega]; exact hx

theorem countA_eq (all : List Inf) (x : Inf) : countA all x = cnt (fun y => isA y.cl) all x.i := rfl

theorem ahead_nodup (ops : List Oper) : ∀ (m p : Nat), p + m = ops.length → ((ahead (infs P ops) b sp p).map (·.1)).Nodup
  | 0, p, h => by rw [ahead_end (by rw [infs_length]; omega)]; exact List.nodup_nil
  | m + 1, p, h => by
    have hlt : p < (infs P ops).length := by rw [infs_length]; omega
    have hx : (infs P ops)[p]? = some (infs P ops)[p] := List.getElem?_eq_getElem hlt
    have ih := ahead_nodup ops m (p + 1) (by omega)
    rw [ahead_at hx]
    split
    · rename_i q hq
      rw [List.map_cons, List.nodup_cons]
      refine ⟨fun hm => ?_, ih⟩
      obtain ⟨r, hr, e⟩ := List.mem_map.1 hm
      obtain ⟨i, y, h1, h2, h3, h4, rfl⟩ := ahead_mem hr
      unfold mkA at hq
      split at hq
      · rename_i hc
        simp only [Bool.and_eq_true] at hc
        cases hq
        simp only [countA_eq] at e
        rw [(infs_at h2).1, (infs_at hx).1] at e
        have e1 := cnt_succ (P := P) (fun y => isA y.cl) hx
        rw [if_pos hc.1] at e1
        have e2 := cnt_mono (c := fun y => isA y.cl) (all := infs P ops) h1
        omega
      · cases hq
    · exact ih

theorem id_lt {i : Nat} {x : Inf} (hx : (infs P ops)[i]? = some x) (ha : isA x.cl = true) : countA (infs P ops) x < cnt (fun y => isA y.cl) (infs P ops) ops.length := by
  have hlt : i < ops.length := by have := (List.getElem?_eq_some_iff.1 hx).1; rwa [infs_length] at this
  rw [countA_eq, (infs_at hx).1]
  have e1 := cnt_succ (P := P) (fun y => isA y.cl) hx
  rw [if_pos ha] at e1
  have e2 := cnt_mono (c := fun y => isA y.cl) (all := infs P ops) (show i + 1 ≤ ops.length by omega)
  omega
theorem Ctx.ahead_lt (C : Ctx P nt ops b tr sp) {p : Nat} : ∀ q ∈ ahead (infs P ops) b sp p, q.1 < 65536 := fun q hq => by
  obtain ⟨i, x, _, h2, h3, _, rfl⟩ := ahead_mem hq
  have := id_lt h2 h3
  have := C.ids
  simp only; omega
theorem Ctx.id_inj (_ : Ctx P nt ops b tr sp) {i j : Nat} {x y : Inf} (hx : (infs P ops)[i]? = some x) (hy : (infs P ops)[j]? = some y) (h1 : isA x.cl = true) (h2 : isA y.cl = true) (h : b + countA (infs P ops) x = b + countA (infs P ops) y) : i = j := by
  rw [countA_eq, countA_eq, (infs_at hx).1, (infs_at hy).1] at h
  have e1 := cnt_succ (P := P) (fun y => isA y.cl) hx
  have e2 := cnt_succ (P := P) (fun y => isA y.cl) hy
  rw [if_pos h1] at e1
  rw [if_pos h2] at e2
  rcases Nat.lt_trichotomy i j with hl | hl | hl
  · have := cnt_mono (c := fun y => isA y.cl) (all := infs P ops) hl; simp only [Nat.succ_eq_add_one] at this; omega
  · exact hl
  · have := cnt_mono (c := fun y => isA y.cl) (all := infs P ops) hl; simp only [Nat.succ_eq_add_one] at this; omega

theorem nodup_ahead (ops : List Oper) (p : Nat) : ((ahead (infs P ops) b sp p).map (·.1)).Nodup := by
  by_cases h : p ≤ ops.length
  · exact ahead_nodup ops (ops.length - p) p (by omega)
  · rw [ahead_end (by rw [infs_length]; omega)]; exact List.nodup_nil

/-- What does not turn memory leaves the heap, with what is made from there on, as it is. -/
theorem Ctx.Hh_still (C : Ctx P nt ops b tr sp) {p : Nat} {x : Inf} (hx : (infs P ops)[p]? = some x) (h : isW x.cl = false ∨ (sp p).wt = false) : Hh P ops b tr sp p = Hh P ops b tr sp (p + 1) ∧ (tr (p + 1)).h.next = (tr p).h.next := by
  have s := C.st p x hx
  unfold Hh
  rw [ahead_at hx]
  have hi := (infs_at hx).1
  cases hw : (sp p).wt with
  | false =>
    have hm : mkA (infs P ops) b sp x = none := by unfold mkA; rw [hi, hw]; simp
    rw [hm, (s.skip hw).2]; exact ⟨rfl, rfl⟩
  | true =>
    have hd := s.does hw
    have h := h.resolve_right (by rw [hw]; simp)
    unfold Does at hd
    cases hc : x.cl with
    | d => rw [hc] at hd; exact hd.elim
    | w => rw [hc] at h; cases h
    | p =>
      rw [hc] at hd
      have hm : mkA (infs P ops) b sp x = none := by unfold mkA; rw [hc]; rfl
      rw [hm, hd.1]; exact ⟨rfl, rfl⟩
    | r =>
      rw [hc] at hd
      have hm : mkA (infs P ops) b sp x = none := by unfold mkA; rw [hc]; rfl
      rw [hm, hd.1]; exact ⟨rfl, rfl⟩
    | a =>
      rw [hc] at hd
      have hm : mkA (infs P ops) b sp x = some (b + countA (infs P ops) x, (sp p).k) := by unfold mkA; rw [hc, hi, hw]; rfl
      rw [hm, hd.1]; exact ⟨rfl, rfl⟩

end
end Go.Proofs.YtlkbahknmbgjmaaGreat.Ev
