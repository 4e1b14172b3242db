/-
  A region whose order is open: a step, and all of it.
  No conditions.
-/
import Derived.Test.YtlkbahknmbgjmaaGreatEu
namespace Go.Proofs.YtlkbahknmbgjmaaGreat.Ev
open Go

section
variable {P : Program} {nt : Nat} {ops : List Oper} {b : Nat} {tr : Nat → Tr} {sp : Nat → Sp}
variable {μ0 : Mp} {h : Hp} {w0 : World} {ds : List Deferred} {S : Nat → Prop} {a : Act} {w : World} {μ : Mp} {p : Nat}

theorem Rel.sub {H : Hp} (r : Rel μ H w) {g : Hp} (hs : Sub g H) (hn : g.next = H.next) : Rel μ g w :=
  ⟨fun c m hc => by rw [hn]; exact r.lt c m hc, fun c k m hk hm => r.br c k m (hs c k hk) hm, fun c d k l m n hk hl hm hn' hne => r.inj c d k l m n (hs c k hk) (hs d l hl) hm hn' hne, by rw [hn]; exact r.nx, fun c hc hc' => by
    cases hg : g.get c with
    | no => rfl
    | of k =>
      have := r.fresh c (by rw [← hn]; exact hc) hc'
      rw [hs c k hg] at this; cases this⟩

theorem put_get (a : Act) (d : Option Tmp) (u : Value) (t : Nat) (h : d ≠ some t) : (a.put d u).tmps.getD t undef = a.tmps.getD t undef := by
  cases d with
  | none => rfl
  | some d =>
    have hne : d ≠ t := fun e => h (by rw [e])
    show (a.tmps.setIfInBounds d u).getD t undef = _
    rw [Array.getD_eq_getD_getElem?, Array.getD_eq_getD_getElem?, Array.getElem?_setIfInBounds_ne hne]
theorem put_same (a : Act) (d : Nat) (u : Value) (h : d < a.tmps.size) : (a.put (some d) u).tmps.getD d undef = u := by
  show (a.tmps.setIfInBounds d u).getD d undef = u
  simp [Array.getD_eq_getD_getElem?, h]

/-- The state behind an operation. -/
theorem Inv.next (C : Ctx P nt ops b tr sp) (I : Inv P nt ops b tr sp μ0 h w0 ds S a w μ p) {i : Nat} {x : Inf} (hx : (infs P ops)[i]? = some x) (hr : ∀ e ∈ x.o.after.toList, Region.binds .any e = true → S e.on) {ν : Mp} {u : Value} {w' : World} {p' : Nat}
    (hle : μ.le ν) (hv : VR ν (sp i).v u) (hst : Stp μ0 h w0 ν (Hh P ops b tr sp p') w') (hp : p' ≤ ops.length) (hwr : ∀ j y, (infs P ops)[j]? = some y → isW y.cl = true → ((S j ∨ j = i) ↔ j < p'))
    (hopn : ∀ j y, (infs P ops)[j]? = some y → isA y.cl = true → (sp j).wt = true → ¬ (S j ∨ j = i) → ν (b + countA (infs P ops) y) = none ∧ (Hh P ops b tr sp p').get (b + countA (infs P ops) y) = .of (sp j).k)
    (hno : ∀ q, q ≤ p' → ∀ j y, q ≤ j → (infs P ops)[j]? = some y → isA y.cl = true → (sp j).wt = true → (tr q).h.get (b + countA (infs P ops) y) = .no)
    (hnx : ∀ q, q ≤ p' → b + cnt (fun y => isA y.cl) (infs P ops) ops.length ≤ (tr q).h.next) :
    Inv P nt ops b tr sp μ0 h w0 ds (fun j => S j ∨ j = i) (a.put x.o.dst u) w' ν p' where
  closed j o ho hS e he hb := by
    rcases hS with hS | hS
    · exact .inl (I.closed j o ho hS e he hb)
    · subst hS
      rw [get_op hx] at ho; cases ho
      exact .inl (hr e he hb)
  le := hp
  wr := hwr
  stp := hst
  opn := hopn
  no := hno
  nx := hnx
  slot j y d hy hS hd := by
    by_cases e : j = i
    · subst e
      rw [hx] at hy; cases hy
      have hlt : d < nt := dstOk_lt (by rw [← hd]; exact (C.st j x hx).dst)
      rw [hd, put_same a d u (by rw [I.size]; exact hlt)]
      exact hv
    · rw [put_get a _ u d fun h => e (C.one hy hx hd h)]
      exact (I.slot j y d hy (hS.resolve_right e) hd).mono hle
  kept t ht hn := by
    rw [put_get a _ u t (hn i x hx (.inr rfl))]
    exact (I.kept t ht fun j y hy hS => hn j y hy (.inl hS)).mono hle
  size := by
    rw [← I.size]
    cases x.o.dst with
    | none => rfl
    | some d => simp [Act.put]
  ds := by
    rw [← I.ds]
    cases x.o.dst <;> rfl

variable {Q : Exit → Act → World → Prop}

theorem Inv.step (C : Ctx P nt ops b tr sp) (hb : h.next ≤ b) (I : Inv P nt ops b tr sp μ0 h w0 ds S a w μ p) {i : Nat} {x : Inf} (hx : (infs P ops)[i]? = some x) (hn : ¬ S i) (hr : ∀ e ∈ x.o.after.toList, Region.binds .any e = true → S e.on) :
    wpOp P ops.toArray Q i (fun a' w' => ∃ ν p', Inv P nt ops b tr sp μ0 h w0 ds (fun j => S j ∨ j = i) a' w' ν p') a w := by
  have hi := (infs_at hx).1
  have hlt : i < ops.length := by have := (List.getElem?_eq_some_iff.1 hx).1; rwa [infs_length] at this
  have s := C.st i x hx
  have hF := I.frame C hx hn hr
  have hwd := wantsB_ok s.wts μ a.tmps hF
  have hbef := I.bef C hx (.inr hr)
  unfold wpOp
  rw [show ops.toArray[i]? = some x.o by simpa using get_op hx]
  -- no writer
  have calm : isW x.cl = false → ∀ j y, (infs P ops)[j]? = some y → isW y.cl = true → ((S j ∨ j = i) ↔ j < p) := fun hw j y hy hwy => by
    have hne : j ≠ i := fun e => by subst e; rw [hx] at hy; cases hy; rw [hw] at hwy; cases hwy
    rw [← I.wr j y hy hwy]; simp [hne]
  -- a writer
  have turn : isW x.cl = true → Inv P nt ops b tr sp μ0 h w0 ds S a w μ i := fun hw => by
    have hip : p ≤ i := by
      have := I.wr i x hx hw
      rcases Nat.lt_or_ge i p with h | h
      · exact absurd (this.2 h) hn
      · exact h
    refine I.to C i hip (by omega) fun j y h1 h2 hy => ?_
    cases hwy : isW y.cl with
    | false => rfl
    | true =>
      have hyi := (infs_at hy).1
      have := C.ok.turn y (List.mem_of_getElem? hy) x (List.mem_of_getElem? hx) hwy hw (by rw [hyi, hi]; exact h2)
      rw [hyi] at this
      have := (I.wr j y hy hwy).1 (hbef j this)
      omega
  have turned : ∀ {J : Inv P nt ops b tr sp μ0 h w0 ds S a w μ i}, isW x.cl = true → ∀ j y, (infs P ops)[j]? = some y → isW y.cl = true → ((S j ∨ j = i) ↔ j < i + 1) := fun {J} _ j y hy hwy => by
    rw [J.wr j y hy hwy]; omega
  cases hwt : (sp i).wt with
  | false =>
    rw [hwt] at hwd
    simp only [hwd, Bool.false_eq_true, if_false]
    obtain ⟨hv, hh⟩ := s.skip hwt
    have hv' : VR μ (sp i).v undef := by rw [hv]; exact .tup .nil
    cases hw : isW x.cl with
    | false => exact ⟨μ, p, I.next C hx hr μ.le_refl hv' I.stp I.le (calm hw) (fun j y hy ha hwy hS => I.opn j y hy ha hwy fun h => hS (.inl h)) I.no I.nx⟩
    | true =>
      have J := turn hw
      have hst := C.Hh_still hx (.inr hwt)
      refine ⟨μ, i + 1, J.next C hx hr μ.le_refl hv' (by rw [← hst.1]; exact J.stp) hlt (turned (J := J) hw) (fun j y hy ha hwy hS => by rw [← hst.1]; exact J.opn j y hy ha hwy fun h => hS (.inl h)) (fun q hq j y hqj hy ha hwy => ?_) fun q hq => ?_⟩
      · rcases Nat.lt_or_ge q (i + 1) with h | h
        · exact J.no q (by omega) j y hqj hy ha hwy
        · have : q = i + 1 := by omega
          subst this
          rw [hh]; exact J.no i (Nat.le_refl _) j y (by omega) hy ha hwy
      · rcases Nat.lt_or_ge q (i + 1) with h | h
        · exact J.nx q (by omega)
        · have : q = i + 1 := by omega
          subst this
          rw [hh]; exact J.nx i (Nat.le_refl _)
  | true =>
    rw [hwt] at hwd
    simp only [hwd, if_true]
    refine .inl ?_
    have hd := s.does hwt
    unfold Does at hd
    cases hc : x.cl with
    | d => rw [hc] at hd; exact hd.elim
    | p =>
      rw [hc] at hd
      obtain ⟨u, hrun, hv⟩ := hd.2 μ _ w a x.o rfl (Sub.h0 _) I.stp.rel hF
      exact wp_value hrun ⟨μ, p, I.next C hx hr μ.le_refl hv I.stp I.le (calm (by rw [hc]; rfl)) (fun j y hy ha hwy hS => I.opn j y hy ha hwy fun h => hS (.inl h)) I.no I.nx⟩
    | r =>
      obtain ⟨G, hR, hG⟩ := I.reads C hx hn hr hc hwt
      obtain ⟨u, hrun, hv⟩ := hR μ _ w a x.o rfl hG I.stp.rel hF
      exact wp_value hrun ⟨μ, p, I.next C hx hr μ.le_refl hv I.stp I.le (calm (by rw [hc]; rfl)) (fun j y hy ha hwy hS => I.opn j y hy ha hwy fun h => hS (.inl h)) I.no I.nx⟩
    | a =>
      rw [hc] at hd
      have ha : isA x.cl = true := by rw [hc]; rfl
      obtain ⟨hid, hget⟩ := I.opn i x hx ha hwt hn
      obtain ⟨u, w', m, y, hrun, hnew, hm, hbr, hv⟩ := hd.2 μ w a x.o rfl hF hid
      have hidl := id_lt hx ha
      have hnx := I.nx p (Nat.le_refl _)
      have hst := I.stp.made hid hget (by omega) (by unfold Hh; rw [lay_next]; omega) hnew hm hbr
      refine wp_value hrun ⟨_, p, I.next C hx hr (le_upd hid) hv hst I.le (calm (by rw [hc]; rfl)) (fun j y hy hay hwy hS => ?_) I.no I.nx⟩
      obtain ⟨h1, h2⟩ := I.opn j y hy hay hwy fun h => hS (.inl h)
      refine ⟨?_, h2⟩
      rw [upd_ne m fun e => hS (.inr (C.id_inj hy hx hay ha e))]; exact h1
    | w =>
      rw [hc] at hd
      have hw : isW x.cl = true := by rw [hc]; rfl
      have J := turn hw
      have hah : ahead (infs P ops) b sp i = ahead (infs P ops) b sp (i + 1) := by
        rw [ahead_at hx]
        have hm : mkA (infs P ops) b sp x = none := by unfold mkA; rw [hc]; rfl
        rw [hm]
      have hrel : Rel μ (tr i).h w := J.stp.rel.sub (J.sub C (Nat.le_refl _)) (by unfold Hh; rw [lay_next])
      have hnxi := J.nx i (Nat.le_refl _)
      have hal : ∀ q ∈ ahead (infs P ops) b sp i, q.1 < (tr i).h.next ∧ (tr i).h.get q.1 = .no := fun q hq => by
        obtain ⟨j, y, g1, g2, g3, g4, rfl⟩ := ahead_mem hq
        have := id_lt g2 g3
        rw [(infs_at g2).1] at g4
        exact ⟨by simp only; omega, J.no i (Nat.le_refl _) j y g1 g2 g3 g4⟩
      refine hd.1 μ w a x.o _ Q rfl hrel hF fun ν u w' hst hv => ?_
      have hL : Stp μ (Hh P ops b tr sp i) w ν (Hh P ops b tr sp (i + 1)) w' := by
        have := Stp.lay (l := ahead (infs P ops) b sp i) (fun q hq => (hal q hq).1) (nodup_ahead ops i) (fun q hq => (hal q hq).2) J.stp.rel hst
        unfold Hh
        rw [← hah]; exact this
      refine ⟨ν, i + 1, J.next C hx hr hst.le hv (J.stp.trans hL) hlt (turned (J := J) hw) (fun j y hy hay hwy hS => ?_) (fun q hq j y hqj hy hay hwy => ?_) fun q hq => ?_⟩
      · obtain ⟨h1, h2⟩ := J.opn j y hy hay hwy fun h => hS (.inl h)
        have hidl := id_lt hy hay
        refine ⟨?_, ?_⟩
        · cases hν : ν (b + countA (infs P ops) y) with
          | none => rfl
          | some m =>
            rcases hst.new _ m hν with h3 | ⟨h3, _⟩
            · rw [h1] at h3; cases h3
            · omega
        · rw [← h2]
          exact hL.same _ (by unfold Hh; rw [lay_next]; omega) h1
      · rcases Nat.lt_or_ge q (i + 1) with h | h
        · exact J.no q (by omega) j y hqj hy hay hwy
        · have : q = i + 1 := by omega
          subst this
          have h1 := J.no i (Nat.le_refl _) j y (by omega) hy hay hwy
          have hidl := id_lt hy hay
          cases hμ : μ (b + countA (infs P ops) y) with
          | none => rw [hst.same _ (by omega) hμ]; exact h1
          | some m =>
            cases hg : (tr (i + 1)).h.get (b + countA (infs P ops) y) with
            | no => rfl
            | of k =>
              obtain ⟨l, hl⟩ := hst.live _ k m hg hμ
              rw [h1] at hl; cases hl
      · rcases Nat.lt_or_ge q (i + 1) with h | h
        · exact J.nx q (by omega)
        · have : q = i + 1 := by omega
          subst this
          exact Nat.le_trans hnxi hst.next

end
end Go.Proofs.YtlkbahknmbgjmaaGreat.Ev
