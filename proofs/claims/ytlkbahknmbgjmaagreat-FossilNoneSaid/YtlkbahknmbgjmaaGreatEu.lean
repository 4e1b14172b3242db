/-
  A region whose order is open: it holds in every order.
  No conditions.
-/
import Derived.Test.YtlkbahknmbgjmaaGreatEt
namespace Go.Proofs.YtlkbahknmbgjmaaGreat.Ev
open Go

section
variable {P : Program} {nt : Nat} {ops : List Oper} {b : Nat} {tr : Nat → Tr} {sp : Nat → Sp}

/-- Who has come up. -/
def Up (listed : Array Bool) (i : Nat) : Prop := listed.getD i false = true

/-- The state when these have come up: the writers before p and no other. -/
structure Inv (P : Program) (nt : Nat) (ops : List Oper) (b : Nat) (tr : Nat → Tr) (sp : Nat → Sp) (μ0 : Mp) (h : Hp) (w0 : World) (ds : List Deferred) (S : Nat → Prop) (a : Act) (w : World) (μ : Mp) (p : Nat) : Prop where
  closed : ∀ i o, ops[i]? = some o → S i → ∀ e ∈ o.after.toList, Region.binds .any e = true → S e.on
  le : p ≤ ops.length
  wr : ∀ i x, (infs P ops)[i]? = some x → isW x.cl = true → (S i ↔ i < p)
  stp : Stp μ0 h w0 μ (Hh P ops b tr sp p) w
  opn : ∀ i x, (infs P ops)[i]? = some x → isA x.cl = true → (sp i).wt = true → ¬ S i → μ (b + countA (infs P ops) x) = none ∧ (Hh P ops b tr sp p).get (b + countA (infs P ops) x) = .of (sp i).k
  no : ∀ q, q ≤ p → ∀ i x, q ≤ i → (infs P ops)[i]? = some x → isA x.cl = true → (sp i).wt = true → (tr q).h.get (b + countA (infs P ops) x) = .no
  nx : ∀ q, q ≤ p → b + cnt (fun y => isA y.cl) (infs P ops) ops.length ≤ (tr q).h.next
  slot : ∀ i x (d : Nat), (infs P ops)[i]? = some x → S i → x.o.dst = some d → VR μ (sp i).v (a.tmps.getD d undef)
  kept : ∀ t, t < 250 → (∀ i x, (infs P ops)[i]? = some x → S i → x.o.dst ≠ some t) → VR μ ((fget t).get (tr 0).fr) (a.tmps.getD t undef)
  size : a.tmps.size = nt
  ds : a.defers = ds

variable {μ0 : Mp} {h : Hp} {w0 : World} {ds : List Deferred} {S : Nat → Prop} {a : Act} {w : World} {μ : Mp} {p : Nat}

theorem get_op {i : Nat} {x : Inf} (hx : (infs P ops)[i]? = some x) : ops[i]? = some x.o := (infs_at hx).2.1

/-- No writer from p to q: the heap is the same. -/
theorem Inv.to (C : Ctx P nt ops b tr sp) (I : Inv P nt ops b tr sp μ0 h w0 ds S a w μ p) : ∀ (q : Nat), p ≤ q → q ≤ ops.length → (∀ i x, p ≤ i → i < q → (infs P ops)[i]? = some x → isW x.cl = false) →
    Inv P nt ops b tr sp μ0 h w0 ds S a w μ q
  | q, hpq, hq, hw => by
    by_cases e : p = q
    · subst e; exact I
    · obtain ⟨q, rfl⟩ : ∃ r, q = r + 1 := ⟨q - 1, by omega⟩
      have J := Inv.to C I q (by omega) (by omega) fun i x h1 h2 => hw i x h1 (by omega)
      have hlt : q < (infs P ops).length := by rw [infs_length]; omega
      have hx : (infs P ops)[q]? = some (infs P ops)[q] := List.getElem?_eq_getElem hlt
      have hn := hw q _ (by omega) (by omega) hx
      obtain ⟨h1, h2⟩ := C.Hh_still hx (.inl hn)
      have s := C.st q _ hx
      -- the heap at q + 1
      have hget : ∀ c, c < 65536 → (∀ y, (infs P ops)[q]? = some y → isA y.cl = true → c ≠ b + countA (infs P ops) y) → (tr (q + 1)).h.get c = (tr q).h.get c := fun c hc hne => by
        cases hwt : (sp q).wt with
        | false => rw [(s.skip hwt).2]
        | true =>
          have hd := s.does hwt
          unfold Does at hd
          generalize hcl : (infs P ops)[q].cl = cl at hd hn
          cases cl with
          | d => exact hd.elim
          | w => cases hn
          | p => rw [hd.1]
          | r => rw [hd.1]
          | a =>
            have hne' := hne _ hx (by rw [hcl]; rfl)
            have hid := id_lt hx (by rw [hcl]; rfl)
            have hids := C.ids
            rw [hd.1, get_at _ (by omega) hc, if_neg hne']
      refine ⟨J.closed, hq, fun i x hxi hwi => ?_, by rw [← h1]; exact J.stp, fun i x hxi hai hwi hs => ?_, fun r hr i x hri hxi hai hwi => ?_, fun r hr => ?_, J.slot, J.kept, J.size, J.ds⟩
      · rw [J.wr i x hxi hwi]
        constructor
        · intro; omega
        · intro hlt
          have : i ≠ q := fun e => by subst e; rw [hx] at hxi; cases hxi; rw [hwi] at hn; cases hn
          omega
      · rw [← h1]; exact J.opn i x hxi hai hwi hs
      · rcases Nat.lt_or_ge r (q + 1) with hlt | hge
        · exact J.no r (by omega) i x hri hxi hai hwi
        · have : r = q + 1 := by omega
          subst this
          have hid := id_lt hxi hai
          have hids := C.ids
          rw [hget _ (by omega) fun y hy hay e => ?_]
          · exact J.no q (Nat.le_refl _) i x (by omega) hxi hai hwi
          · have := C.id_inj hxi hy hai hay e; omega
      · rcases Nat.lt_or_ge r (q + 1) with hlt | hge
        · exact J.nx r (by omega)
        · have : r = q + 1 := by omega
          subst this
          rw [h2]; exact J.nx q (Nat.le_refl _)

/-- The heap there lies in the heap with all that is made from there on. -/
theorem Inv.sub (C : Ctx P nt ops b tr sp) (I : Inv P nt ops b tr sp μ0 h w0 ds S a w μ p) {q : Nat} (hq : q ≤ p) : Sub (tr q).h (Hh P ops b tr sp q) := fun c k hk => by
  have hc : c % 65536 < 65536 := Nat.mod_lt _ (by decide)
  rw [← get_mod] at hk ⊢
  unfold Hh
  rcases lay_cases _ C.ahead_lt (nodup_ahead ops q) (c % 65536) hc with ⟨k', h1, _⟩ | ⟨_, h2⟩
  · obtain ⟨i, x, g1, g2, g3, g4, g5⟩ := ahead_mem h1
    have hi := (infs_at g2).1
    rw [hi] at g4
    have := I.no q hq i x g1 g2 g3 g4
    have e : c % 65536 = b + countA (infs P ops) x := congrArg Prod.fst g5
    rw [← e, hk] at this
    cases this
  · rw [h2]; exact hk

/-- What a ready operation waits for has come up. -/
theorem Inv.bef (C : Ctx P nt ops b tr sp) (I : Inv P nt ops b tr sp μ0 h w0 ds S a w μ p) {i : Nat} {x : Inf} (hx : (infs P ops)[i]? = some x) (hr : S i ∨ ∀ e ∈ x.o.after.toList, Region.binds .any e = true → S e.on) : ∀ j, x.bef.testBit j = true → S j := by
  have hlt : ∀ i o, ops[i]? = some o → ∀ e ∈ o.after.toList, Region.binds .any e = true → e.on < i := fun i o ho e he hb => by
    have hy : (infs P ops)[i]? = some ⟨i, o, cls P o.op, (befs ops []).getD i 0⟩ := by rw [infs_get, ho]; rfl
    have := C.ok.edge _ (List.mem_of_getElem? hy) e he hb
    exact this
  rw [(infs_at hx).2.2.2]
  rcases hr with hr | hr
  · exact bef_closed I.closed hlt i hr
  · exact bef_ready I.closed hlt (get_op hx) hr

/-- The slots that a ready operation looks at. -/
theorem Inv.frame (C : Ctx P nt ops b tr sp) (I : Inv P nt ops b tr sp μ0 h w0 ds S a w μ p) {i : Nat} {x : Inf} (hx : (infs P ops)[i]? = some x) (hn : ¬ S i) (hr : ∀ e ∈ x.o.after.toList, Region.binds .any e = true → S e.on) :
    FR μ (only (tr i).fr (looked ops x.o)) a.tmps := by
  have hi := (infs_at hx).1
  have hlt : i < ops.length := by have := (List.getElem?_eq_some_iff.1 hx).1; rwa [infs_length] at this
  refine only_FR fun t ht ht2 => ?_
  by_cases hex : ∃ (j : Nat) (y : Inf), (infs P ops)[j]? = some y ∧ y.o.dst = some t
  · obtain ⟨j, y, hy, hd⟩ := hex
    have hj := (infs_at hy).1
    have late : ¬ S j → i ≤ j → VR μ ((fget t).get (tr i).fr) (a.tmps.getD t undef) := fun hs hij => by
      rw [C.fr_kept (p := 0) (by omega) (Nat.zero_le _) (by omega) fun i' z _ h2 hz hd' => by have := C.one hy hz hd hd'; omega]
      exact I.kept t ht2 fun i' z hz hs' hd' => hs (by have := C.one hy hz hd hd'; subst this; exact hs')
    rcases C.ok.look x (List.mem_of_getElem? hx) y (List.mem_of_getElem? hy) t hd ht with ⟨h1, _⟩ | ⟨h1, h2⟩ | ⟨h1, h2, _⟩
    · rw [hi, hj] at h1
      subst h1; exact late hn (Nat.le_refl _)
    · rw [hi, hj] at h1
      rw [hj] at h2
      rw [C.fr_written hy (by omega) hd h1 (by omega)]
      exact I.slot j y t hy (I.bef C hx (.inr hr) j h2) hd
    · rw [hi, hj] at h1
      rw [hi] at h2
      exact late (fun hs => hn (I.bef C hy (.inl hs) i h2)) (by omega)
  · have hno : ∀ (j : Nat) (y : Inf), (infs P ops)[j]? = some y → y.o.dst ≠ some t := fun j y hy hd => hex ⟨j, y, hy, hd⟩
    rw [C.fr_kept (t := t) (p := 0) (q := i) (by omega) (Nat.zero_le _) (by omega) fun i' z _ _ hz => hno i' z hz]
    exact I.kept t ht2 fun i' z hz _ => hno i' z hz

/-- Lists of writers: those before p. -/
theorem Ctx.hs_at (C : Ctx P nt ops b tr sp) : ∀ (p : Nat), p ≤ ops.length → ∀ j y, j < p → (infs P ops)[j]? = some y → isW y.cl = true →
    cnt (fun y => isW y.cl) (infs P ops) j < cnt (fun y => isW y.cl) (infs P ops) p ∧ (tr p).hs[cnt (fun y => isW y.cl) (infs P ops) p - 1 - cnt (fun y => isW y.cl) (infs P ops) j]? = some (tr j).h
  | 0, _, j, y, h, _, _ => by omega
  | p + 1, hp, j, y, hj, hy, hw => by
    have hlt : p < (infs P ops).length := by rw [infs_length]; omega
    have hx : (infs P ops)[p]? = some (infs P ops)[p] := List.getElem?_eq_getElem hlt
    have s := C.st p _ hx
    have e1 := cnt_succ (P := P) (fun y => isW y.cl) hx
    by_cases e : j = p
    · subst e
      rw [hx] at hy; cases hy
      rw [if_pos hw] at e1
      refine ⟨by omega, ?_⟩
      rw [s.hs, if_pos hw, e1, show ∀ n : Nat, n + 1 - 1 - n = 0 by intro n; omega]; rfl
    · obtain ⟨h1, h2⟩ := C.hs_at p (by omega) j y (by omega) hy hw
      cases hwp : isW (infs P ops)[p].cl with
      | false =>
        rw [hwp] at e1
        rw [s.hs, hwp, e1]
        exact ⟨h1, h2⟩
      | true =>
        rw [hwp] at e1
        rw [s.hs, hwp, e1]
        refine ⟨by simp only [if_true]; omega, ?_⟩
        simp only [if_true]
        rw [show ∀ n m : Nat, m < n → n + 1 - 1 - m = (n - 1 - m) + 1 by intro n m h; omega]
        · simpa using h2
        · exact h1

theorem first_writer (q : Nat) : ∀ (n : Nat), (∀ i x, q ≤ i → i < q + n → (infs P ops)[i]? = some x → isW x.cl = false) ∨
    ∃ j y, q ≤ j ∧ j < q + n ∧ (infs P ops)[j]? = some y ∧ isW y.cl = true ∧ ∀ i x, q ≤ i → i < j → (infs P ops)[i]? = some x → isW x.cl = false
  | 0 => .inl fun i x h1 h2 => by omega
  | n + 1 => by
    rcases first_writer q n with h | ⟨j, y, h1, h2, h3, h4, h5⟩
    · cases hx : (infs P ops)[q + n]? with
      | none =>
        refine .inl fun i x h1 h2 hxi => ?_
        by_cases e : i = q + n
        · subst e; rw [hx] at hxi; cases hxi
        · exact h i x h1 (by omega) hxi
      | some y =>
        cases hw : isW y.cl with
        | true => exact .inr ⟨q + n, y, by omega, by omega, hx, hw, fun i x h1 h2 => h i x h1 h2⟩
        | false =>
          refine .inl fun i x h1 h2 hxi => ?_
          by_cases e : i = q + n
          · subst e; rw [hx] at hxi; cases hxi; exact hw
          · exact h i x h1 (by omega) hxi
    · exact .inr ⟨j, y, h1, by omega, h3, h4, h5⟩

/-- A ready reader reads, in the memory as it is, what it reads in the order of the text. -/
theorem Inv.reads (C : Ctx P nt ops b tr sp) (I : Inv P nt ops b tr sp μ0 h w0 ds S a w μ p) {i : Nat} {x : Inf} (hx : (infs P ops)[i]? = some x) (hn : ¬ S i) (hr : ∀ e ∈ x.o.after.toList, Region.binds .any e = true → S e.on)
    (hc : x.cl = .r) (hwt : (sp i).wt = true) : ∃ G, Reads P x.o.op (only (tr i).fr (looked ops x.o)) G (sp i).v ∧ Sub G (Hh P ops b tr sp p) := by
  have hi := (infs_at hx).1
  have hlt : i < ops.length := by have := (List.getElem?_eq_some_iff.1 hx).1; rwa [infs_length] at this
  have s := C.st i x hx
  have hd := s.does hwt
  unfold Does at hd
  rw [hc] at hd
  obtain ⟨hd1, hd2, hd3⟩ := hd
  have hbef := I.bef C hx (.inr hr)
  rcases Nat.lt_or_ge i p with hip | hip
  · -- writers behind it have come up
    have key : ∀ q, i + 1 ≤ q → q ≤ p → ∃ G, Reads P x.o.op (only (tr i).fr (looked ops x.o)) G (sp i).v ∧ Sub G (Hh P ops b tr sp q) := by
      intro q
      induction q with
      | zero => intro h1; omega
      | succ q ih =>
        intro h1 h2
        by_cases e : q = i
        · subst e
          refine ⟨_, hd2, ?_⟩
          rw [← (C.Hh_still hx (.inl (by rw [hc]; rfl))).1]
          exact I.sub C (by omega)
        · obtain ⟨G, hG1, hG2⟩ := ih (by omega) (by omega)
          have hql : q < (infs P ops).length := by rw [infs_length]; have := I.le; omega
          have hy : (infs P ops)[q]? = some (infs P ops)[q] := List.getElem?_eq_getElem hql
          generalize (infs P ops)[q] = y at hy
          have hyi := (infs_at hy).1
          by_cases hw : isW y.cl = false ∨ (sp q).wt = false
          · refine ⟨G, hG1, ?_⟩
            rw [← (C.Hh_still hy hw).1]; exact hG2
          · have hw1 : isW y.cl = true := by
              cases h : isW y.cl with
              | true => rfl
              | false => exact absurd (.inl h) hw
            have hw2 : (sp q).wt = true := by
              cases h : (sp q).wt with
              | true => rfl
              | false => exact absurd (.inr h) hw
            have hSq : S q := (I.wr q y hy hw1).2 (by omega)
            have hnb : y.bef.testBit i = false := by
              cases h : y.bef.testBit i with
              | false => rfl
              | true => exact absurd (I.bef C hy (.inl hSq) i h) hn
            have sy := C.st q y hy
            have hdy := sy.does hw2
            unfold Does at hdy
            have hcy : y.cl = .w := by
              generalize y.cl = c at hw1
              cases c <;> first | rfl | cases hw1
            rw [hcy] at hdy
            have hlat := hdy.2 x (List.mem_of_getElem? hx) (by rw [hc]; rfl) (by rw [hi, hyi]; omega) (by rw [hi]; exact hnb)
            -- the frame
            have hfr : ∀ t ∈ looked ops x.o, t < 250 → (fget t).get (tr (q + 1)).fr = (fget t).get (tr i).fr := fun t ht ht2 => by
              refine C.fr_kept (p := i) (by omega) (by omega) (by have := I.le; omega) fun j z h1 h2 hz hdz => ?_
              have hzj := (infs_at hz).1
              rcases C.ok.look x (List.mem_of_getElem? hx) z (List.mem_of_getElem? hz) t hdz ht with ⟨_, h3⟩ | ⟨h3, _⟩ | ⟨_, _, h3⟩
              · rw [hc] at h3; cases h3
              · rw [hi, hzj] at h3; omega
              · rw [hc] at h3; cases h3
            have hfe := only_eq hfr
            have hwx : wantsB ops x.o.guard (tr (q + 1)).fr = some true := by
              have h1 := wantsB_only ops x.o.guard (tr (q + 1)).fr (l := looked ops x.o) fun t ht => List.mem_append_right _ ht
              have h2 := wantsB_only ops x.o.guard (tr i).fr (l := looked ops x.o) fun t ht => List.mem_append_right _ ht
              rw [← h1, hfe, h2, s.wts, hwt]
            have hR := hlat hwx
            rw [hfe] at hR
            have hval : (opd (.tmp (x.o.dst.getD 0))).of (tr (q + 1)).fr = (sp i).v := by
              have hds := C.ok.rdst x (List.mem_of_getElem? hx) hc
              have hok := s.dst
              cases hdd : x.o.dst with
              | none => rw [hdd] at hds; cases hds
              | some d =>
                rw [hdd] at hok
                have hdl := dstOk_lt (d := d) hok
                have hnt := C.ntl
                show ((match Nat.blt d 250 with | true => (⟨(fget d).get⟩ : Vl) | false => ⟨fun _ => .top⟩).of (tr (q + 1)).fr) = _
                rw [of_lt250 (Nat.lt_of_lt_of_le hdl hnt)]
                exact C.fr_written hx (Nat.lt_of_lt_of_le hdl (by omega)) hdd (by omega) (by have := I.le; omega)
            rw [hval] at hR
            refine ⟨_, hR, ?_⟩
            exact (I.sub C (q := q + 1) h2)
    exact key p hip (Nat.le_refl _)
  · -- none behind it
    rcases first_writer (P := P) (ops := ops) p (i - p) with hno | ⟨j, y, h1, h2, h3, h4, h5⟩
    · have J := I.to C i hip (by omega) fun i' x' g1 g2 => hno i' x' g1 (by omega)
      have hsame : Hh P ops b tr sp p = Hh P ops b tr sp i := by
        have key : ∀ q, p ≤ q → q ≤ i → Hh P ops b tr sp p = Hh P ops b tr sp q := by
          intro q
          induction q with
          | zero => intro g1 _; have : p = 0 := by omega
                    rw [this]
          | succ q ih =>
            intro g1 g2
            by_cases e : p = q + 1
            · rw [e]
            · rw [ih (by omega) (by omega)]
              have hql : q < (infs P ops).length := by rw [infs_length]; omega
              exact (C.Hh_still (List.getElem?_eq_getElem hql) (.inl (hno q _ (by omega) (by omega) (List.getElem?_eq_getElem hql)))).1
        exact key i hip (Nat.le_refl _)
      refine ⟨_, hd2, ?_⟩
      rw [hsame]; exact J.sub C (Nat.le_refl _)
    · have hsame : Hh P ops b tr sp p = Hh P ops b tr sp j := by
        have key : ∀ q, p ≤ q → q ≤ j → Hh P ops b tr sp p = Hh P ops b tr sp q := by
          intro q
          induction q with
          | zero => intro g1 _; have : p = 0 := by omega
                    rw [this]
          | succ q ih =>
            intro g1 g2
            by_cases e : p = q + 1
            · rw [e]
            · rw [ih (by omega) (by omega)]
              have hql : q < (infs P ops).length := by rw [infs_length]; omega
              exact (C.Hh_still (List.getElem?_eq_getElem hql) (.inl (h5 q _ (by omega) (by omega) (List.getElem?_eq_getElem hql)))).1
        exact key j h1 (Nat.le_refl _)
      have J := I.to C j h1 (by omega) h5
      obtain ⟨g1, g2⟩ := C.hs_at i (by omega) j y (by omega) h3 h4
      have hcw : countW (infs P ops) x = cnt (fun y => isW y.cl) (infs P ops) i := by show cnt (fun y => isW y.cl) (infs P ops) x.i = _; rw [hi]
      have hcb : countB (infs P ops) x ≤ cnt (fun y => isW y.cl) (infs P ops) p := cnt_le fun z hz hd => by
        simp only [Bool.and_eq_true] at hd
        exact ⟨hd.1, (I.wr z.i z (infs_mem hz) hd.1).1 (hbef _ hd.2)⟩
      have hcm := cnt_mono (c := fun y => isW y.cl) (all := infs P ops) h1
      obtain ⟨K, hK, hR⟩ := hd3 (cnt (fun y => isW y.cl) (infs P ops) i - 1 - cnt (fun y => isW y.cl) (infs P ops) j) (by rw [hcw]; omega)
      rw [g2] at hK
      cases hK
      refine ⟨_, hR, ?_⟩
      rw [hsame]; exact J.sub C (Nat.le_refl _)

end
end Go.Proofs.YtlkbahknmbgjmaaGreat.Ev
