/-
  The interpreter's regions in the order of the text.
  No conditions.
-/
import Derived.Test.YtlkbahknmbgjmaaGreatEk
import Derived.Tactics
namespace Go.Proofs.YtlkbahknmbgjmaaGreat.Ev
open Go

/-- The activation as the frame says: nt slots. -/
structure St (nt : Nat) (μ : Mp) (fr : F) (a : Act) : Prop where
  frr : FR μ fr a.tmps
  size : a.tmps.size = nt
  dr : DR μ ((fget 255).get fr) a.defers

theorem St.mono {nt : Nat} {μ ν : Mp} {fr : F} {a : Act} (h : μ.le ν) (s : St nt μ fr a) : St nt ν fr a := ⟨s.frr.mono h, s.size, s.dr.mono h⟩

/-- What an outcome says of what follows. -/
def Ends (nt : Nat) (μ : Mp) (h : Hp) (w : World) (Q : Exit → Act → World → Prop) : Out → Prop
  | .no => False
  | .nrm fr g => ∀ ν a u, Stp μ h w ν g u → St nt ν fr a → Q .normal a u
  | .exi id fr g => ∀ ν a u, Stp μ h w ν g u → St nt ν fr a → Q (.exit id) a u
  | .ret fr g => ∀ ν a u, Stp μ h w ν g u → St nt ν fr a → Q .ret a u

theorem Ends.some {nt : Nat} {μ : Mp} {h : Hp} {w : World} {Q : Exit → Act → World → Prop} {o : Out} (e : Ends nt μ h w Q o) : o ≠ .no := fun h => by subst h; exact e
theorem Ends.step {nt : Nat} {μ : Mp} {h : Hp} {w : World} {Q : Exit → Act → World → Prop} {o : Out} (e : Ends nt μ h w Q o) {ν : Mp} {g : Hp} {u : World} (s : Stp μ h w ν g u) : Ends nt ν g u Q o := by
  cases o with
  | no => exact e
  | nrm fr g => exact fun ξ a t s' r => e ξ a t (s.trans s') r
  | exi id fr g => exact fun ξ a t s' r => e ξ a t (s.trans s') r
  | ret fr g => exact fun ξ a t s' r => e ξ a t (s.trans s') r

theorem dstOk_lt {nt d : Nat} (h : dstOk nt (some d) = true) : d < nt := Nat.blt_eq ▸ h

theorem St.put1 {nt : Nat} (hnt : nt ≤ 250) {μ : Mp} {fr : F} {a : Act} (s : St nt μ fr a) {d : Nat} (hlt : d < nt) {v : AV} {u : Value} (hv : VR μ v u) : St nt μ ((fput d).put v fr) (a.put (some d) u) := by
  refine ⟨s.frr.put d (by omega) (by rw [s.size]; exact hlt) hv, by simp [Act.put, s.size], ?_⟩
  show DR μ ((fget 255).get ((fput d).put v fr)) a.defers
  rw [fget_fput_ne d 255 (by omega) (by omega) (by omega)]
  exact s.dr
theorem St.put {nt : Nat} (hnt : nt ≤ 250) {μ : Mp} {fr : F} {a : Act} (s : St nt μ fr a) {d : Option Tmp} (hd : dstOk nt d = true) {v : AV} {u : Value} (hv : VR μ v u) : St nt μ ((dst d).put v fr) (a.put d u) := by
  cases d with
  | none => exact s
  | some d => exact s.put1 hnt (dstOk_lt hd) hv

/-! ### Guards -/
theorem wants_ok {ops : List Oper} {o : Oper} {fr : F} {x y out : Out} (e : (wants ops o.guard).of fr x y = out) (hn : out ≠ .no) {μ : Mp} {tmps : Array Value} (r : FR μ fr tmps) :
    (Region.wanted o (yielded ops.toArray tmps) = true ∧ x = out) ∨ (Region.wanted o (yielded ops.toArray tmps) = false ∧ y = out) := by
  unfold Region.wanted
  cases hg : o.guard with
  | none => rw [hg] at e; exact .inl ⟨rfl, e⟩
  | some p =>
    obtain ⟨j, want⟩ := p
    rw [hg] at e
    have e : (match (guardV ops j).of fr with
      | .bool b => bif? x y (b == want)
      | .tup [] => y
      | _ => .no) = out := e
    have key : ∀ v, (guardV ops j).of fr = v → v ≠ .top → ∃ d u, ((ops.toArray[j]?).bind (·.dst)) = some d ∧ tmps.getD d undef = u ∧ VR μ v u := by
      intro v hv hne
      unfold guardV at hv
      split at hv
      · rename_i q hq
        split at hv
        · rename_i d hd
          refine ⟨d, _, by simp [hq, hd], rfl, ?_⟩
          have := opd_rel (μ := μ) (fr := fr) (a := { tmps := tmps, defers := [] }) r (.tmp d)
          rw [hv] at this
          exact this
        · exact absurd hv.symm hne
      · exact absurd hv.symm hne
    cases hv : (guardV ops j).of fr with
    | bool b =>
      rw [hv] at e
      obtain ⟨d, u, hd, hu, hr⟩ := key _ hv (by simp)
      have hu' : u = .bool b := by cases hr; rfl
      have hy : yielded ops.toArray tmps j = some b := by
        unfold yielded
        rw [hd]
        simp only [Option.bind_some]
        rw [Array.getD_eq_getD_getElem?] at hu
        cases ht : tmps[d]? with
        | none => rw [ht, hu'] at hu; cases hu
        | some z => rw [ht, hu'] at hu; simp only [Option.getD_some] at hu; subst hu; rfl
      simp only [hy]
      have e : bif? x y (b == want) = out := e
      rcases bif_or e with ⟨h1, h2⟩ | ⟨h1, h2⟩
      · exact .inl ⟨by simpa using h1, h2⟩
      · exact .inr ⟨by simpa using h1, h2⟩
    | tup l =>
      rw [hv] at e
      cases l with
      | cons _ _ => exact absurd e.symm hn
      | nil =>
        obtain ⟨d, u, hd, hu, hr⟩ := key _ hv (by simp)
        have hu' : u = undef := by cases hr with | tup h => cases h; rfl
        have hy : yielded ops.toArray tmps j = none := by
          unfold yielded
          rw [hd]
          simp only [Option.bind_some]
          rw [Array.getD_eq_getD_getElem?] at hu
          cases ht : tmps[d]? with
          | none => rfl
          | some z => rw [ht, hu'] at hu; simp only [Option.getD_some] at hu; subst hu; rfl
        simp only [hy]
        exact .inr ⟨rfl, e⟩
    | _ => rw [hv] at e; exact absurd e.symm hn

section
variable {P : Program}

/-! ### A deferred call -/
theorem oDefer_ok (c : Call) {f} (h : oDefer c P = .df f) {fr : F} {q : AV → Out} {out : Out} (e : f fr q = out) (hn : out ≠ .no) :
    ∃ g l b, q (.fn g l b) = out ∧ ∀ (μ : Mp) (w : World) (a : Act) (o : Oper), o.op = .defer c → FR μ fr a.tmps →
      ∃ args cap, (execOp a.eval o).run P w = .ok (.defer { target := .fn (.func g) ⟨cap⟩, args := ⟨args⟩ }) w ∧ VRs μ l args ∧ VRs μ b cap := by
  obtain ⟨callee, xs, ts⟩ := c
  cases callee with
  | builtin b => cases h
  | invoke r m => cases h
  | value x =>
    have h : OpC.df (fun fr q => ((opd x).of fr).fn? fun g a b => q (.fn g (a ++ (opds xs.toList).of fr) b)) = .df f := h
    cases h
    obtain ⟨g, l, b, hv, e1⟩ := fn?_inv e hn
    refine ⟨g, _, b, e1, fun μ w a o ho r => ?_⟩
    have hc := opd_rel r x
    rw [hv] at hc
    generalize hz : a.eval x = z at hc
    cases hc with
    | fn ha hb =>
      rename_i as bs
      refine ⟨as ++ xs.toList.map a.eval, bs, ?_, ha.app (opds_rel r _), hb⟩
      have harg : xs.map a.eval = ⟨xs.toList.map a.eval⟩ := by apply Array.ext'; simp
      unfold execOp; rw [ho]
      simp only [resolve, hz, Deferred.ofValue, Sem.run_bind, Sem.run_pure, Result.andThen_ok, harg]
      simp

theorem opC_df {o : Op} {f} (h : opC o P = .df f) : ∃ c, o = .defer c ∧ oDefer c P = .df f := by
  cases o with
  | defer c => exact ⟨c, rfl, h⟩
  | call c =>
    have h' : oCall c P = .df f := h
    unfold oCall oBuiltin at h'
    repeat' split at h'
    all_goals first | contradiction | cases h'
  | build t ps =>
    have h' : oBuild t ps P = .df f := h
    unfold oBuild at h'
    repeat' split at h'
    all_goals first | contradiction | cases h'
  | load t x =>
    have h' : oLoad t x P = .df f := h
    unfold oLoad at h'
    repeat' split at h'
    all_goals first | contradiction | cases h'
  | store t x y =>
    have h' : oStore t x y P = .df f := h
    unfold oStore at h'
    repeat' split at h'
    all_goals first | contradiction | cases h'
  | binOp op t x y u =>
    have h' : oBin op t x y u P = .df f := h
    unfold oBin eqB eqP eqN at h'
    repeat' split at h'
    all_goals first | contradiction | cases h'
  | unOp op t x =>
    have h' : oUn op t x P = .df f := h
    unfold oUn at h'
    repeat' split at h'
    all_goals first | contradiction | cases h'
  | convert s t x =>
    have h' : oConv s t x P = .df f := h
    unfold oConv at h'
    repeat' split at h'
    all_goals first | contradiction | cases h'
  | makeFunc g x y =>
    have h' : oMakeFunc g x y P = .df f := h
    unfold oMakeFunc at h'
    repeat' split at h'
    all_goals first | contradiction | cases h'
  | slice t x lo hi mx =>
    have h' : oSlice t x lo hi mx P = .df f := h
    unfold oSlice at h'
    repeat' split at h'
    all_goals first | contradiction | cases h'
  | fieldAddr t x i =>
    have h' : oFieldAddr t x i P = .df f := h
    unfold oFieldAddr at h'
    repeat' split at h'
    all_goals first | contradiction | cases h'
  | field t x i =>
    have h' : oField t x i P = .df f := h
    unfold oField at h'
    repeat' split at h'
    all_goals first | contradiction | cases h'
  | indexAddr t x i =>
    have h' : oIndexAddr t x i P = .df f := h
    unfold oIndexAddr at h'
    repeat' split at h'
    all_goals first | contradiction | cases h'
  | index t x i =>
    have h' : oIndex t x i P = .df f := h
    unfold oIndex at h'
    repeat' split at h'
    all_goals first | contradiction | cases h'
  | alloc e =>
    have h' : oAlloc e P = .df f := h
    unfold oAlloc at h'
    repeat' split at h'
    all_goals first | contradiction | cases h'
  | box e x =>
    have h' : oBox e x P = .df f := h
    unfold oBox at h'
    repeat' split at h'
    all_goals first | contradiction | cases h'
  | buildSlice t n ps =>
    have h' : oBuildSlice t n ps P = .df f := h
    unfold oBuildSlice at h'
    repeat' split at h'
    all_goals first | contradiction | cases h'
  | makeSlice t l c =>
    have h' : oMakeSlice t l c P = .df f := h
    unfold oMakeSlice at h'
    repeat' split at h'
    all_goals first | contradiction | cases h'
  | _ => cases h

/-! ### An operation, and those behind it -/
section
variable {nt : Nat} {Q : Exit → Act → World → Prop} {next : Act → World → Prop} {ca : Ca} {o : Oper}

/-- From every state that the frame's trees tell of, the run of these goes well. -/
def Nexts (nt : Nat) (Q : Exit → Act → World → Prop) (next : Act → World → Prop) (k : F → Hp → Out) : Prop :=
  ∀ fr h μ a w, Rel μ h w → St nt μ fr a → Ends nt μ h w Q (k fr h) → next a w

theorem yes_rd {f : F → Hp → (AV → Out) → Out} (hc : RdOk P o.op f) {k : F → Hp → Out} (hnt : nt ≤ 250) (hd : dstOk nt o.dst = true) (hk : Nexts nt Q next k) {fr : F} {h : Hp} {μ : Mp} {a : Act} {w : World}
    (hrel : Rel μ h w) (s : St nt μ fr a) (e : Ends nt μ h w Q (f fr h fun v => k ((dst o.dst).put v fr) h)) : o.wp P a w next Q := by
  obtain ⟨v, e1, H'⟩ := hc fr h _ _ rfl e.some
  obtain ⟨u, hr, hv⟩ := H' μ h w a o rfl (Sub.refl h) hrel s.frr
  refine wp_value hr (hk _ h μ _ w hrel (s.put hnt hd hv) ?_)
  have e1 : k ((dst o.dst).put v fr) h = _ := e1
  rw [e1]; exact e

theorem yes_al {f : Nat → F → (AV → Blk → Out) → Out} (hc : AlOk P o.op f) {k : F → Hp → Out} (hnt : nt ≤ 250) (hd : dstOk nt o.dst = true) (hk : Nexts nt Q next k) {fr : F} {h : Hp} {μ : Mp} {a : Act} {w : World}
    (hrel : Rel μ h w) (s : St nt μ fr a) (e : Ends nt μ h w Q (f h.next fr fun v b => h.push b fun h' => k ((dst o.dst).put v fr) h')) : o.wp P a w next Q := by
  obtain ⟨v, b, e1, H'⟩ := hc h.next fr _ _ rfl e.some
  have e1 : (h.push b fun h' => k ((dst o.dst).put v fr) h') = _ := e1
  obtain ⟨hlt, e2⟩ := push_inv e1 e.some
  have hid : μ h.next = none := by
    cases e : μ h.next with
    | none => rfl
    | some n => have := (hrel.lt _ n e).1; omega
  obtain ⟨u, w', m, x, hr, hnew, hm, hbr, hv⟩ := H' μ w a o rfl s.frr hid
  have hst := Stp.push hrel hnew hlt hm hbr
  refine wp_value hr (hk _ _ _ _ w' hst.rel ((s.mono hst.le).put hnt hd hv) ?_)
  rw [e2]
  exact e.step hst

theorem yes_wr {f : Ca → F → Hp → (AV → Hp → Out) → Out} (hc : WrOk P o.op f) (hca : CaOk P ca) {k : F → Hp → Out} (hnt : nt ≤ 250) (hd : dstOk nt o.dst = true) (hk : Nexts nt Q next k) {fr : F} {h : Hp} {μ : Mp} {a : Act} {w : World}
    (hrel : Rel μ h w) (s : St nt μ fr a) (e : Ends nt μ h w Q (f ca fr h fun v h' => k ((dst o.dst).put v fr) h')) : o.wp P a w next Q := by
  obtain ⟨v, h', e1, H'⟩ := hc ca hca fr h _ _ rfl e.some
  refine H' μ w a o next Q rfl hrel s.frr fun ν u w' hst hv => hk _ _ ν _ w' hst.rel ((s.mono hst.le).put hnt hd hv) ?_
  have e1 : k ((dst o.dst).put v fr) h' = _ := e1
  rw [e1]
  exact e.step hst

theorem yes_df {f : F → (AV → Out) → Out} (hc : opC o.op P = .df f) {k : F → Hp → Out} (hnt : nt ≤ 250) (hd : dstOk nt o.dst = true) (hk : Nexts nt Q next k) {fr : F} {h : Hp} {μ : Mp} {a : Act} {w : World}
    (hrel : Rel μ h w) (s : St nt μ fr a) (e : Ends nt μ h w Q (f fr fun v => match (fget 255).get fr with
      | .tup [] => k ((dst o.dst).put (.tup []) ((fput 255).put v fr)) h
      | _ => .no)) : o.wp P a w next Q := by
  obtain ⟨c, ho, hc⟩ := opC_df hc
  obtain ⟨g, l, b, e1, H'⟩ := oDefer_ok (P := P) c hc rfl e.some
  obtain ⟨args, cap, hr, h1, h2⟩ := H' μ w a o ho s.frr
  have hne := e.some
  have hdr := s.dr
  generalize hx : (fget 255).get fr = x at hdr e1 e hne
  generalize hdf : a.defers = dl at hdr
  cases hdr with
  | one _ _ => exact absurd e1.symm hne
  | nil =>
    have e1 : k ((dst o.dst).put (.tup []) ((fput 255).put (.fn g l b) fr)) h = _ := e1
    unfold Oper.wp
    rw [hr]
    refine hk _ h μ _ w hrel ?_ (by rw [e1]; exact e)
    have s' : St nt μ ((fput 255).put (.fn g l b) fr) { a with defers := { target := .fn (.func g) ⟨cap⟩, args := ⟨args⟩ } :: a.defers } := by
      refine ⟨fun t ht => ?_, s.size, ?_⟩
      · rw [fget_fput_ne 255 t (by omega) (by omega) (by omega)]; exact s.frr t ht
      · rw [fget_fput 255 (by omega)]
        show DR μ _ ({ target := .fn (.func g) ⟨cap⟩, args := ⟨args⟩ } :: a.defers)
        rw [hdf]
        exact .one h1 h2
    exact s'.put hnt hd (.tup .nil)

/-- An operation of a region. -/
theorem oper_ok (hca : CaOk P ca) (hnt : nt ≤ 250) {ops : List Oper} {rest : Cm} (hk : Nexts nt Q next (rest.run ca)) {fr : F} {h : Hp} {μ : Mp} {a : Act} {w : World} (hrel : Rel μ h w) (s : St nt μ fr a)
    (e : Ends nt μ h w Q ((oper P nt ops o rest).run ca fr h)) :
    (Region.wanted o (yielded ops.toArray a.tmps) = true ∧ o.wp P a w next Q) ∨ (Region.wanted o (yielded ops.toArray a.tmps) = false ∧ next (a.put o.dst undef) w) := by
  unfold oper at e
  cases hd : dstOk nt o.dst with
  | false => rw [hd] at e; exact e.elim
  | true =>
    rw [hd] at e
    have skip : Ends nt μ h w Q (rest.run ca ((dst o.dst).put (.tup []) fr) h) → next (a.put o.dst undef) w := fun e => hk _ h μ _ w hrel (s.put hnt hd (.tup .nil)) e
    have both : ∀ {x : Out}, Ends nt μ h w Q ((wants ops o.guard).of fr x (rest.run ca ((dst o.dst).put (.tup []) fr) h)) → (Ends nt μ h w Q x → o.wp P a w next Q) →
        (Region.wanted o (yielded ops.toArray a.tmps) = true ∧ o.wp P a w next Q) ∨ (Region.wanted o (yielded ops.toArray a.tmps) = false ∧ next (a.put o.dst undef) w) := fun e hx => by
      rcases wants_ok rfl e.some s.frr with ⟨h1, h2⟩ | ⟨h1, h2⟩
      · exact .inl ⟨h1, hx (by rw [h2]; exact e)⟩
      · exact .inr ⟨h1, skip (by rw [h2]; exact e)⟩
    have free : o.guard = none → Region.wanted o (yielded ops.toArray a.tmps) = true := fun h => by unfold Region.wanted; rw [h]
    cases hop : opC o.op P with
    | no => rw [hop] at e; cases hg : o.guard <;> (rw [hg] at e; exact e.elim)
    | rd f =>
      rw [hop] at e
      cases hg : o.guard with
      | none => rw [hg] at e; exact .inl ⟨free hg, yes_rd (opC_rd hop) hnt hd hk hrel s e⟩
      | some g => rw [hg] at e; exact both (by rw [hg]; exact e) (yes_rd (opC_rd hop) hnt hd hk hrel s)
    | al f =>
      rw [hop] at e
      cases hg : o.guard with
      | none => rw [hg] at e; exact .inl ⟨free hg, yes_al (opC_al hop) hnt hd hk hrel s e⟩
      | some g => rw [hg] at e; exact both (by rw [hg]; exact e) (yes_al (opC_al hop) hnt hd hk hrel s)
    | wr f =>
      rw [hop] at e
      cases hg : o.guard with
      | none => rw [hg] at e; exact .inl ⟨free hg, yes_wr (opC_wr hop) hca hnt hd hk hrel s e⟩
      | some g => rw [hg] at e; exact both (by rw [hg]; exact e) (yes_wr (opC_wr hop) hca hnt hd hk hrel s)
    | df f =>
      rw [hop] at e
      cases hg : o.guard with
      | none => rw [hg] at e; exact .inl ⟨free hg, yes_df hop hnt hd hk hrel s e⟩
      | some g => rw [hg] at e; exact e.elim

theorem opers_ok (hca : CaOk P ca) (hnt : nt ≤ 250) (ops : List Oper) : ∀ (l : List Oper), Nexts nt Q (wpList P ops.toArray Q l) ((opers P nt ops l).run ca)
  | [], fr, h, μ, a, w, hrel, s, e => e μ a w (Stp.refl hrel) s
  | o :: l, fr, h, μ, a, w, hrel, s, e => by
    unfold wpList
    rcases oper_ok hca hnt (opers_ok hca hnt ops l) hrel s e with ⟨h1, h2⟩ | ⟨h1, h2⟩
    · rw [if_pos h1]; exact .inl h2
    · rw [if_neg (by rw [h1]; simp)]; exact h2

end
end
end Go.Proofs.YtlkbahknmbgjmaaGreat.Ev
