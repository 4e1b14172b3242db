/-
  The interpreter's regions.
  No conditions.
-/
import Derived.Test.YtlkbahknmbgjmaaGreatEw
namespace Go.Proofs.YtlkbahknmbgjmaaGreat.Ev
open Go

/-- How many of the first n have not come up. -/
def unl (f : Nat → Bool) : Nat → Nat
  | 0 => 0
  | n + 1 => unl f n + if f n then 0 else 1
theorem unl_zero {f : Nat → Bool} : ∀ {n : Nat}, unl f n = 0 → ∀ i, i < n → f i = true
  | n + 1, h, i, hi => by
    unfold unl at h
    by_cases e : i = n
    · subst e
      cases hf : f i with
      | true => rfl
      | false => rw [hf] at h; simp at h
    · exact unl_zero (n := n) (by omega) i (by omega)
theorem unl_le (f : Nat → Bool) : ∀ n, unl f n ≤ n
  | 0 => Nat.le_refl _
  | n + 1 => by
    unfold unl
    have := unl_le f n
    split <;> omega
theorem unl_set {f g : Nat → Bool} {i : Nat} (hf : f i = false) (hg : g i = true) (h : ∀ j, j ≠ i → g j = f j) : ∀ {n : Nat}, i < n → unl g n + 1 = unl f n
  | n + 1, hi => by
    unfold unl
    by_cases e : i = n
    · subst e
      have : ∀ m, m ≤ i → unl g m = unl f m := by
        intro m
        induction m with
        | zero => intro _; rfl
        | succ m ih => intro hm; unfold unl; rw [ih (by omega), h m (by omega)]
      rw [this i (Nat.le_refl _), hf, hg]; simp
    · have := unl_set hf hg h (n := n) (by omega)
      rw [h n (fun e' => e e'.symm)]; omega

theorem Up.set {l : Array Bool} {i : Nat} (hi : i < l.size) : Up (l.setIfInBounds i true) = fun j => Up l j ∨ j = i := by
  funext j
  unfold Up
  rw [Array.getD_eq_getD_getElem?, Array.getD_eq_getD_getElem?]
  by_cases e : j = i
  · subst e; simp [hi]
  · rw [Array.getElem?_setIfInBounds_ne (Ne.symm e)]; simp [e]

section
variable {P : Program} {nt : Nat} {ops : List Oper} {b : Nat} {tr : Nat → Tr} {sp : Nat → Sp}
variable {μ0 : Mp} {h : Hp} {w0 : World} {ds : List Deferred} {Q : Exit → Act → World → Prop}

theorem ready_mem {l : Array Bool} {i : Nat} : i ∈ Region.ready .any ops.toArray l ↔ i < ops.length ∧ l.getD i true = false ∧ ∃ o, ops[i]? = some o ∧ ∀ e ∈ o.after.toList, Region.binds .any e = true → Up l e.on := by
  unfold Region.ready Up
  simp only [List.mem_filter, List.mem_range, List.size_toArray, List.getElem?_toArray]
  cases ho : ops[i]? with
  | none => simp
  | some o =>
    simp only [Option.map_some, Option.getD_some, Bool.and_eq_true, Bool.not_eq_true', Option.some.injEq, exists_eq_left']
    constructor
    · rintro ⟨h1, h2, h3⟩
      refine ⟨h1, h2, fun e he hb => ?_⟩
      have := Array.all_eq_true_iff_forall_mem.1 h3 e (Array.mem_def.2 he)
      rw [hb] at this; simpa using this
    · rintro ⟨h1, h2, h3⟩
      refine ⟨h1, h2, Array.all_eq_true_iff_forall_mem.2 fun e he => ?_⟩
      cases hb : Region.binds .any e with
      | false => rfl
      | true => simpa using h3 e (Array.mem_def.1 he) hb

theorem any_ok (C : Ctx P nt ops b tr sp) (hb : h.next ≤ b) (hend : ∀ μ p a w, Inv P nt ops b tr sp μ0 h w0 ds (fun i => i < ops.length) a w μ p → Q .normal a w) :
    ∀ (fuel : Nat) (l : Array Bool) (a : Act) (w : World), l.size = ops.length → unl (fun i => l.getD i false) ops.length ≤ fuel → (∃ μ p, Inv P nt ops b tr sp μ0 h w0 ds (Up l) a w μ p) → wpAny P .any ops.toArray Q fuel l a w := by
  have full : ∀ (l : Array Bool) (a : Act) (w : World), l.size = ops.length → (∀ i, i < ops.length → Up l i) → (∃ μ p, Inv P nt ops b tr sp μ0 h w0 ds (Up l) a w μ p) → Q .normal a w := fun l a w hl hu ⟨μ, p, I⟩ => by
    have e : Up l = fun i => i < ops.length := by
      funext i
      refine propext ⟨fun hi => ?_, hu i⟩
      rcases Nat.lt_or_ge i ops.length with h | h
      · exact h
      · unfold Up at hi
        rw [Array.getD_eq_getD_getElem?, Array.getElem?_eq_none (by omega)] at hi; cases hi
    rw [e] at I
    exact hend μ p a w I
  have none : ∀ (l : Array Bool), l.size = ops.length → (∀ i, i < ops.length → Up l i) → Region.ready .any ops.toArray l = [] := fun l hl hu => by
    rw [List.eq_nil_iff_forall_not_mem]
    intro i hi
    obtain ⟨h1, h2, _⟩ := ready_mem.1 hi
    have := hu i h1
    unfold Up at this
    rw [Array.getD_eq_getD_getElem?, Array.getElem?_eq_getElem (by omega)] at h2 this
    simp only [Option.getD_some] at h2 this
    rw [this] at h2; cases h2
  intro fuel
  induction fuel with
  | zero =>
    intro l a w hl hu hI
    have hup := unl_zero (Nat.le_zero.1 hu)
    exact ⟨none l hl hup, full l a w hl hup hI⟩
  | succ fuel ih =>
    intro l a w hl hu hI
    refine ⟨fun hr => full l a w hl (fun i hi => ?_) hI, fun i hi => ?_⟩
    · induction i using Nat.strongRecOn with
      | _ i ihs =>
        cases hui : l.getD i false with
        | true => exact hui
        | false =>
          have hio : ops[i]? = some ops[i] := List.getElem?_eq_getElem hi
          have hx : (infs P ops)[i]? = some ⟨i, ops[i], cls P ops[i].op, (befs ops []).getD i 0⟩ := by rw [infs_get, hio]; rfl
          have : i ∈ Region.ready .any ops.toArray l := ready_mem.2 ⟨hi, by
            rw [Array.getD_eq_getD_getElem?, Array.getElem?_eq_getElem (by omega)] at hui ⊢; exact hui, ops[i], hio, fun e he hbe => by
              have hlt : e.on < i := C.ok.edge _ (List.mem_of_getElem? hx) e he hbe
              exact ihs e.on hlt (by omega)⟩
          rw [hr] at this; cases this
    · obtain ⟨h1, h2, o, ho, h3⟩ := ready_mem.1 hi
      obtain ⟨μ, p, I⟩ := hI
      have hx : (infs P ops)[i]? = some ⟨i, o, cls P o.op, (befs ops []).getD i 0⟩ := by rw [infs_get, ho]; rfl
      have hn : l.getD i false = false := by
        rw [Array.getD_eq_getD_getElem?, Array.getElem?_eq_getElem (by omega)] at h2 ⊢; exact h2
      have hs := I.step (Q := Q) C hb hx (by unfold Up; rw [hn]; simp) h3
      refine wpOp_mono (fun a' w' hI' => ?_) hs
      rw [← Up.set (by omega)] at hI'
      refine ih _ a' w' (by simp [hl]) ?_ hI'
      have := unl_set (f := fun j => l.getD j false) (g := fun j => (l.setIfInBounds i true).getD j false) (i := i) hn (by
        have := congrFun (Up.set (l := l) (i := i) (by omega)) i
        unfold Up at this
        simp only [or_true, eq_iff_iff, iff_true] at this
        exact this) (fun j hj => by
          show (l.setIfInBounds i true).getD j false = l.getD j false
          rw [Array.getD_eq_getD_getElem?, Array.getD_eq_getD_getElem?, Array.getElem?_setIfInBounds_ne (Ne.symm hj)]) h1
      omega

theorem Stp.drew {μ : Mp} {h : Hp} {w : World} (r : Rel μ h w) {A : Nat} (hA : h.next + A ≤ 65536) {l : List (Nat × Blk)} (hl : ∀ p ∈ l, h.next ≤ p.1 ∧ p.1 < h.next + A) :
    Stp μ h w μ (Ev.lay l ⟨Nat.add h.next A, h.t⟩) { w with drawn := w.drawn + 1 } := by
  have hl6 : ∀ p ∈ l, p.1 < 65536 := fun p hp => by have := hl p hp; omega
  have hg : ∀ c, c < h.next → (Ev.lay l ⟨Nat.add h.next A, h.t⟩).get c = h.get c := fun c hc => lay_out hl6 (by omega) fun p hp e => by have := hl p hp; omega
  have hnx : (Ev.lay l ⟨Nat.add h.next A, h.t⟩).next = h.next + A := lay_next _ _
  exact {
    le := μ.le_refl
    new := fun _ _ h => .inl h
    rel := by
      refine ⟨fun c m hm => ?_, fun c k m hk hm => ?_, fun c d k k' m m' hk hk' hm hm' hne => ?_, by rw [hnx]; exact hA, fun c hc hc' => ?_⟩
      · have := r.lt c m hm
        rw [hnx]; exact ⟨by omega, this.2⟩
      · rw [hg c (r.lt c m hm).1] at hk
        exact (r.br c k m hk hm).keep μ.le_refl rfl
      · rw [hg c (r.lt c m hm).1] at hk
        rw [hg d (r.lt d m' hm').1] at hk'
        exact r.inj c d k k' m m' hk hk' hm hm' hne
      · rw [hnx] at hc
        rw [lay_out hl6 hc' fun p hp e => by have := hl p hp; omega]
        exact r.fresh c (by omega) hc'
    next := by rw [hnx]; omega
    same := fun c hc _ => hg c hc
    live := fun c k m hk hm => ⟨k, by rw [← hg c (r.lt c m hm).1]; exact hk⟩
    foot := fun _ _ _ => rfl
    os := rfl
    tape := rfl
    output := rfl
    size := Nat.le_refl _ }

variable {ca : Ca}

theorem drawn_ok (hm : P.follows .mixedOrders = true) (hca : CaOk P ca) (hnt : nt ≤ 250) (id : Nat) (ops : List Oper) : Nexts nt Q ((Code.region id ops.toArray true).wp P Q) ((drawn P nt ops).run ca) := by
  intro fr h μ a w hrel s e
  unfold drawn at e
  cases hok : okD ops (infs P ops) with
  | false => rw [hok] at e; exact e.elim
  | true =>
    rw [hok] at e
    have hn := e.some
    generalize hA : ((infs P ops).filter fun y => isA y.cl).length = A at e hn
    have e : Ends nt μ h w Q (bif? ((opersD P nt ops (infs P ops) (infs P ops)).run ca h.next [] fr ⟨Nat.add h.next A, h.t⟩) .no (Nat.ble (Nat.add h.next A) 65536)) := e
    obtain ⟨hb, e1⟩ := bif_yes rfl e.some
    rw [← e1] at e
    have hb : h.next + A ≤ 65536 := Nat.le_of_ble_eq_true hb
    have hcnt : cnt (fun y => isA y.cl) (infs P ops) ops.length = A := by
      rw [← hA]
      unfold cnt
      congr 1
      refine List.filter_congr fun y hy => ?_
      obtain ⟨i, hi⟩ := List.getElem?_of_mem hy
      have h1 := (List.getElem?_eq_some_iff.1 hi).1
      rw [infs_length] at h1
      rw [(infs_at hi).1, show Nat.blt i ops.length = true by rw [Nat.blt_eq]; exact h1, Bool.and_true]
    obtain ⟨tr, sp, h1, h2, h3⟩ := pass_ok (P := P) (nt := nt) (ops := ops) (all := infs P ops) (b := h.next) hca (fun y hy => (infs_at (infs_mem hy)).2.2.1) (infs P ops) 0 (by simp) ⟨fr, ⟨Nat.add h.next A, h.t⟩, []⟩ _ rfl e.some
    rw [h2] at e
    rw [Nat.zero_add, infs_length] at e
    have C : Ctx P nt ops h.next tr sp := ⟨hnt, okD_ok hok, fun i x hx => h3 i x (Nat.zero_le _) hx, by rw [h1], by rw [hcnt]; exact hb⟩
    have hfr0 : (tr 0).fr = fr := by rw [h1]
    have hh0 : (tr 0).h = ⟨Nat.add h.next A, h.t⟩ := by rw [h1]
    -- the start
    have hah : ∀ q ∈ ahead (infs P ops) h.next sp 0, h.next ≤ q.1 ∧ q.1 < h.next + A := fun q hq => by
      obtain ⟨i, x, _, g2, g3, _, rfl⟩ := ahead_mem hq
      have := id_lt g2 g3
      rw [hcnt] at this
      exact ⟨by simp only; omega, by simp only; omega⟩
    have hst := Stp.drew hrel hb hah
    have hst : Stp μ h w μ (Hh P ops h.next tr sp 0) { w with drawn := w.drawn + 1 } := by unfold Hh; rw [hh0]; exact hst
    have up0 : ∀ i, ¬ Up (Array.replicate ops.length false) i := fun i hi => by
      unfold Up at hi
      rw [Array.getD_eq_getD_getElem?, Array.getElem?_replicate] at hi
      split at hi <;> cases hi
    have I : Inv P nt ops h.next tr sp μ h w a.defers (Up (Array.replicate ops.length false)) a { w with drawn := w.drawn + 1 } μ 0 := {
      closed := fun i o _ hS => absurd hS (up0 i)
      le := Nat.zero_le _
      wr := fun i x _ _ => ⟨fun hS => absurd hS (up0 i), fun h => by omega⟩
      stp := hst
      opn := fun i x hx ha hw _ => by
        have hid := id_lt hx ha
        rw [hcnt] at hid
        refine ⟨?_, ?_⟩
        · cases hμ : μ (h.next + countA (infs P ops) x) with
          | none => rfl
          | some m => have := (hrel.lt _ m hμ).1; omega
        · unfold Hh
          have hi := (infs_at hx).1
          have := ahead_in (b := h.next) (sp := sp) (Nat.zero_le i) hx ha (by rw [hi]; exact hw)
          rw [hi] at this
          exact lay_in C.ahead_lt (nodup_ahead ops 0) this
      no := fun q hq i x _ hx ha _ => by
        have : q = 0 := by omega
        subst this
        have hid := id_lt hx ha
        rw [hcnt] at hid
        rw [hh0]
        exact hrel.fresh _ (by omega) (by omega)
      nx := fun q hq => by
        have : q = 0 := by omega
        subst this
        rw [hh0, hcnt]; exact Nat.le_refl _
      slot := fun i x d _ hS => absurd hS (up0 i)
      kept := fun t ht _ => by rw [hfr0]; exact s.frr t ht
      size := s.size
      ds := rfl }
    refine wp_region_any hm ?_
    have hsz : ops.toArray.size = ops.length := by simp
    rw [hsz]
    refine any_ok C (Nat.le_refl _) (fun ν p a' w' J => ?_) ops.length _ a _ (by simp) (unl_le _ _) ⟨μ, 0, I⟩
    have J := J.to C ops.length J.le (Nat.le_refl _) fun i x h1 h2 hx => by
      cases hw : isW x.cl with
      | false => rfl
      | true => have := (J.wr i x hx hw).1 h2; omega
    have hH : Hh P ops h.next tr sp ops.length = (tr ops.length).h := by
      unfold Hh; rw [ahead_end (by rw [infs_length]; exact Nat.le_refl _)]; rfl
    have hs := J.stp
    rw [hH] at hs
    refine e ν a' w' hs ⟨fun t ht => ?_, J.size, ?_⟩
    · by_cases hex : ∃ (j : Nat) (y : Inf), (infs P ops)[j]? = some y ∧ y.o.dst = some t
      · obtain ⟨j, y, hy, hd⟩ := hex
        have hlt : j < ops.length := by have := (List.getElem?_eq_some_iff.1 hy).1; rwa [infs_length] at this
        rw [C.fr_written hy (by omega) hd hlt (Nat.le_refl _)]
        exact J.slot j y t hy hlt hd
      · have hno : ∀ (j : Nat) (y : Inf), (infs P ops)[j]? = some y → y.o.dst ≠ some t := fun j y hy hd => hex ⟨j, y, hy, hd⟩
        rw [C.fr_kept (t := t) (p := 0) (by omega) (Nat.zero_le _) (Nat.le_refl _) fun i' z _ _ hz => hno i' z hz]
        exact J.kept t ht fun j y hy _ => hno j y hy
    · rw [C.fr_kept (t := 255) (p := 0) (by omega) (Nat.zero_le _) (Nat.le_refl _) fun i' z _ _ hz hd => by
        have := dstOk_lt (d := 255) (nt := nt) (by rw [← hd]; exact (C.st i' z hz).dst)
        omega, hfr0, J.ds]
      exact s.dr.mono hs.le

/-- A region. -/
theorem region_ok (hm : P.follows .mixedOrders = true) (hca : CaOk P ca) (hnt : nt ≤ 250) (id : Nat) (ops : Array Oper) (draw : Bool) : Nexts nt Q ((Code.region id ops draw).wp P Q) ((region P nt ops.toList draw).run ca) := by
  cases draw with
  | false => exact fun fr h μ a w hrel s e => wp_region_list (opers_ok hca hnt ops.toList ops.toList fr h μ a w hrel s e)
  | true => exact drawn_ok hm hca hnt id ops.toList

end
end Go.Proofs.YtlkbahknmbgjmaaGreat.Ev
