/-
  Parts laid into cells; and all of the interpreter's operations that only look.
  No conditions.
-/
import Derived.Test.YtlkbahknmbgjmaaGreatEf
namespace Go.Proofs.YtlkbahknmbgjmaaGreat.Ev
open Go

section
variable {P : Program}

theorem setCells_length {α : Type} : ∀ (r l : List α) (i : Nat), (setCells l i r).length = l.length
  | [], _, _ => rfl
  | v :: r, l, i => by rw [setCells, setCells_length r]; simp

theorem VRs.set {μ : Mp} {l : List AV} {vs : List Value} (h : VRs μ l vs) (i : Nat) {x : AV} {v : Value} (hv : VR μ x v) : VRs μ (l.set i x) (vs.set i v) :=
  VRs.of_get (by simp [h.length]) fun j y u hy hu => by
    by_cases he : i = j
    · subst he
      have hl := h.length
      rw [List.getElem?_set_self (by have := (List.getElem?_eq_some_iff.1 hy).1; simpa using this)] at hy
      rw [List.getElem?_set_self (by have := (List.getElem?_eq_some_iff.1 hu).1; simpa using this)] at hu
      cases hy; cases hu; exact hv
    · rw [List.getElem?_set_ne he] at hy hu
      obtain ⟨u', h1, h2⟩ := h.get hy
      rw [hu] at h1; cases h1; exact h2
theorem VRs.setCells {μ : Mp} : ∀ {r : List AV} {rs : List Value} {l : List AV} {vs : List Value} (i : Nat), VRs μ r rs → VRs μ l vs → VRs μ (Ev.setCells l i r) (Ev.setCells vs i rs)
  | _, _, _, _, _, .nil, h => h
  | _, _, _, _, i, .cons x t, h => VRs.setCells (i + 1) t (h.set i x)
theorem one_set {l : List Value} (h : ∀ v ∈ l, v.oneCell' = true) {v : Value} (hv : v.oneCell' = true) (i : Nat) : ∀ u ∈ l.set i v, u.oneCell' = true := fun u hu => by
  rcases List.mem_or_eq_of_mem_set hu with h1 | h1
  · exact h u h1
  · rw [h1]; exact hv
theorem one_setCells : ∀ (r l : List Value) (i : Nat), (∀ v ∈ l, v.oneCell' = true) → (∀ v ∈ r, v.oneCell' = true) → ∀ u ∈ setCells l i r, u.oneCell' = true
  | [], _, _, h, _ => h
  | v :: r, l, i, h, hr => one_setCells r (l.set i v) (i + 1) (one_set h (hr v (by simp)) i) fun u hu => hr u (by simp [hu])

theorem fold_cells (off : Nat) : ∀ (vs cs : List Value) (k : Nat), ((vs.zipIdx k).foldl (fun (cs : Array Value) (p : Value × Nat) => cs.setIfInBounds (off + p.2) p.1) ⟨cs⟩) = ⟨setCells cs (off + k) vs⟩
  | [], _, _ => rfl
  | v :: vs, cs, k => by
    rw [List.zipIdx_cons, List.foldl_cons]
    have e : (⟨cs⟩ : Array Value).setIfInBounds (off + k) v = ⟨cs.set (off + k) v⟩ := by apply Array.ext'; simp
    rw [e, fold_cells off vs _ (k + 1), setCells]; rfl

theorem fold_cells' (off : Nat) (vs cs : List Value) : ((⟨vs⟩ : Array Value).zipIdx.foldl (fun (cs : Array Value) (c, j) => cs.setIfInBounds (off + j) c) ⟨cs⟩) = ⟨setCells cs off vs⟩ := by
  have := fold_cells off vs cs 0
  rw [Nat.add_zero] at this
  rw [← this]
  have e : (⟨vs⟩ : Array Value).zipIdx = ⟨vs.zipIdx 0⟩ := by apply Array.ext'; simp
  rw [e, ← List.foldl_toArray]

theorem fill1_ok {off size : Nat} {v : AV} {cells : List AV} {q : List AV → Out} {out : Out} (h : fill1 off size v cells q = out) (hn : out ≠ .no) :
    ∃ l, q l = out ∧ l.length = cells.length ∧ ∀ (μ : Mp) (u : Value) (cs : List Value), VR μ v u → VRs μ cells cs → (∀ c ∈ cs, c.oneCell' = true) →
      u.cells.size = size ∧ off + size ≤ cs.length ∧ ∃ ds, u.cells.zipIdx.foldl (fun (cs : Array Value) (c, j) => cs.setIfInBounds (off + j) c) ⟨cs⟩ = ⟨ds⟩ ∧ VRs μ l ds ∧ ∀ c ∈ ds, c.oneCell' = true := by
  by_cases h1 : size = 1
  · subst h1
    obtain ⟨h, ho⟩ := one?_inv (v := v) h hn
    obtain ⟨hb, h⟩ := bif_yes h hn
    have hlt : off < (len cells) := Nat.blt_eq ▸ hb
    rw [len_eq] at hlt
    refine ⟨_, h, by simp, fun μ u cs hv hcs hone => ?_⟩
    have hu := ho hv
    have hc : u.cells = ⟨[u]⟩ := by cases u <;> first | rfl | cases hu
    rw [hc]
    refine ⟨rfl, by rw [← hcs.length]; omega, _, fold_cells' off [u] cs, hcs.set off hv, one_set hone hu off⟩
  · have h' : (v.agg? fun l => bif? (q (setCells cells off l)) .no (Nat.beq (len l) size && Nat.ble (off + size) (len cells))) = out := by
      unfold fill1 at h
      split at h
      · exact absurd rfl h1
      · exact h
    obtain ⟨l, hvl, h2⟩ := agg?_inv h' hn
    obtain ⟨hb, h3⟩ := bif_yes h2 hn
    clear h h' h2
    subst hvl
    simp only [Bool.and_eq_true] at hb
    have hs : l.length = size := by rw [← len_eq]; exact Nat.eq_of_beq_eq_true hb.1
    have hle := Nat.le_of_ble_eq_true hb.2
    rw [len_eq] at hle
    refine ⟨_, h3, setCells_length _ _ _, fun μ u cs hv hcs hone => ?_⟩
    obtain ⟨vs, rfl, hvs, h1⟩ := agg_inv hv
    exact ⟨by rw [← hs, hvs.length]; rfl, by rw [← hcs.length]; exact hle, _, fold_cells' off vs cs, VRs.setCells off hvs hcs, one_setCells vs cs off hone h1⟩

theorem fillF_ok {pa pm : Nat → Option (Nat × Nat)} (hp : ∀ i p, pa i = some p → pm i = some p) {fr : F} : ∀ {ps : List (Nat × Operand)} {cells : List AV} {q : List AV → Out} {out : Out},
    fillF pa ((parts ps).of fr) cells q = out → out ≠ .no → ∃ l, q l = out ∧ l.length = cells.length ∧ ∀ (μ : Mp) (a : Act) (cs : List Value), FR μ fr a.tmps → VRs μ cells cs → (∀ c ∈ cs, c.oneCell' = true) →
      ∃ ds, Instr.fill pm ⟨cs⟩ (ps.map fun (i, x) => (i, a.eval x)) = some ⟨ds⟩ ∧ VRs μ l ds ∧ ∀ c ∈ ds, c.oneCell' = true
  | [], cells, q, out, h, _ => ⟨cells, h, rfl, fun _ _ cs _ hcs ho => ⟨cs, rfl, hcs, ho⟩⟩
  | (i, x) :: ps, cells, q, out, h, hn => by
    have h' : (match pa i with | none => Out.no | some (off, size) => fill1 off size ((opd x).of fr) cells fun cells => fillF pa ((parts ps).of fr) cells q) = out := h
    cases hpa : pa i with
    | none => rw [hpa] at h'; exact absurd h'.symm hn
    | some p =>
      obtain ⟨off, size⟩ := p
      rw [hpa] at h'
      obtain ⟨l1, h2, hl1, H1⟩ := fill1_ok h' hn
      obtain ⟨l2, h3, hl2, H2⟩ := fillF_ok hp h2 hn
      refine ⟨l2, h3, hl2.trans hl1, fun μ a cs r hcs ho => ?_⟩
      obtain ⟨e1, e2, ds, e3, e4, e5⟩ := H1 μ (a.eval x) cs (opd_rel r x) hcs ho
      obtain ⟨es, e6, e7, e8⟩ := H2 μ a ds r e4 e5
      refine ⟨es, ?_, e7, e8⟩
      rw [List.map_cons, Instr.fill]
      simp only [hp i _ hpa]
      rw [if_neg (by simp [e1]; omega), e3]; exact e6

/-! ### Zero values -/
theorem zcells_ok {t : TypeId} {z : List AV} (h : zcells P t = some z) : ∃ y i v, ty P t = some y ∧ TyOk P t y i ∧ i.zero = some v ∧ ∀ μ : Mp, VRs μ z v.cells.toList ∧ ∀ c ∈ v.cells.toList, c.oneCell' = true := by
  unfold zcells zer at h
  cases hy : ty P t with
  | none => rw [hy] at h; cases h
  | some y =>
    rw [hy] at h
    obtain ⟨i, hi⟩ := ty_some hy
    have hz := hi.zer
    dsimp only at h
    cases h0 : i.zero with
    | none => rw [h0] at hz; simp only [← hz, zerOf] at h; cases h
    | some v =>
      rw [h0] at hz
      refine ⟨y, i, v, rfl, hi, h0, fun μ => ?_⟩
      have hv := ofV_rel μ v
      have hz : ofV v = y.zer := hz
      rw [hz] at hv
      generalize y.zer = x at h hv
      cases x with
      | top => cases h
      | tup l => cases h
      | agg l =>
        obtain rfl := Option.some.inj h
        obtain ⟨vs, rfl, h1, h2⟩ := agg_inv hv
        exact ⟨h1, h2⟩
      | sc =>
        obtain rfl := Option.some.inj h
        cases hv with
        | sc _ ho =>
          have hc : v.cells = ⟨[v]⟩ := by cases v <;> first | rfl | cases ho
          rw [hc]
          exact ⟨.cons (.sc _ ho) .nil, fun c hc => by cases hc with | head => exact ho | tail _ h => cases h⟩
      | _ =>
        obtain rfl := Option.some.inj h
        cases hv <;> exact ⟨.cons (by constructor <;> assumption) .nil, fun c hc => by cases hc with | head => rfl | tail _ h => cases h⟩

/-- What mapM over fields comes to. -/
theorem run_mapM_list {α β : Type} {g : α → Sem β} {k : α → β} (w : World) : ∀ (l : List α), (∀ x ∈ l, (g x).run P w = .ok (k x) w) → (l.mapM g).run P w = .ok (l.map k) w
  | [], _ => by simp
  | x :: l, h => by
    rw [List.mapM_cons, Sem.run_bind, h x (by simp)]
    simp only [Result.andThen_ok, Sem.run_bind, run_mapM_list w l fun y hy => h y (by simp [hy]), Sem.run_pure, List.map_cons]
theorem run_mapM_array {α β : Type} {g : α → Sem β} {k : α → β} (w : World) (L : Array α) (h : ∀ x ∈ L.toList, (g x).run P w = .ok (k x) w) : (L.mapM g).run P w = .ok ⟨L.toList.map k⟩ w := by
  rw [Array.mapM_eq_mapM_toList, Sem.run_map, run_mapM_list w L.toList h]; rfl

theorem oBuild_ok (t : TypeId) (ps : Array (Nat × Operand)) {f} (h : oBuild t ps P = .rd f) : RdOk P (.build t ps) f := by
  unfold oBuild at h
  cases hz : zcells P t with
  | none => cases hk : kd P t <;> simp only [hk, hz] at h <;> cases h
  | some z =>
    obtain ⟨y, i, v, hy, hi, h0, hzr⟩ := zcells_ok hz
    have zrun : ∀ w : World, (zeroValue t).run P w = .ok v w := fun w => by simp [zeroValue, typeInfo, hi.info, h0]
    have mapL : ∀ (a : Act), (ps.map fun (i, x) => (i, a.eval x)).toList = ps.toList.map fun (i, x) => (i, a.eval x) := fun a => by simp
    cases hk : kd P t with
    | st fs =>
      simp only [hk, hz] at h
      cases hall : fs.all (fun p => (ty P p.2).isSome) with
      | false => rw [hall] at h; cases h
      | true =>
        rw [hall] at h
        have h' : OpC.rd (fun fr _ q => fillF (fun i => match nth fs i with | some p => some (p.1, siz P p.2) | none => none) ((parts ps.toList).of fr) z fun l => q (.agg l)) = .rd f := h
        cases h'
        obtain ⟨L, hL, hfs⟩ := und_st hk
        have hmap : ∀ w : World, (L.mapM fun f => (do pure (f.offset, ← sizeOf f.type) : Sem (Nat × Nat))).run P w = .ok ⟨L.toList.map fun f => (f.offset, siz P f.type)⟩ w := fun w =>
          run_mapM_array w L fun f hf => by
            have hin : (f.offset, f.type) ∈ fs := by rw [hfs]; exact List.mem_map.2 ⟨f, hf, rfl⟩
            have hsome := List.all_eq_true.1 hall _ hin
            cases hy : ty P f.type with
            | none => rw [hy] at hsome; cases hsome
            | some y' =>
              obtain ⟨i', hi'⟩ := ty_some hy
              rw [Sem.run_bind, sizeOf_run hi', siz_of hy]; rfl
        intro fr h q out e' hn
        obtain ⟨l, e1, _, H'⟩ := fillF_ok (pm := fun i => (⟨L.toList.map fun f => (f.offset, siz P f.type)⟩ : Array (Nat × Nat))[i]?) (fun i p h => by
          rw [nth_eq, hfs, List.getElem?_map] at h
          cases hg : L.toList[i]? with
          | none => rw [hg] at h; cases h
          | some fld =>
            rw [hg] at h
            have h : some (fld.offset, siz P fld.type) = some p := h
            show (L.toList.map fun f => (f.offset, siz P f.type)).toArray[i]? = some p
            rw [List.getElem?_toArray, List.getElem?_map, hg]; exact h) e' hn
        refine ⟨_, e1, fun μ H w a o ho _ _ r => ?_⟩
        obtain ⟨h1, h2⟩ := hzr μ
        obtain ⟨ds, h3, h4, h5⟩ := H' μ a _ r h1 h2
        refine ⟨.agg ⟨ds⟩, exec_v (by unfold execOp; rw [ho]) ?_, .agg h4 h5⟩
        unfold Instr.build
        simp only [Sem.run_bind, zrun, Result.andThen_ok, run_underlying hL, mapL]
        rw [hmap w]
        simp only [Result.andThen_ok]
        have h3' : Instr.fill (fun i => (⟨L.toList.map fun f => (f.offset, siz P f.type)⟩ : Array (Nat × Nat))[i]?) v.cells (List.map (fun x => (x.1, a.eval x.2)) ps.toList) = some ⟨ds⟩ := h3
        rw [h3']; rfl
    | ar n e =>
      simp only [hk, hz] at h
      by_cases hs : siz P e = 0
      · rw [hs] at h; cases h
      · have h' : OpC.rd (fun fr _ q => fillF (fun i => some (i * siz P e, siz P e)) ((parts ps.toList).of fr) z fun l => q (.agg l)) = .rd f := by
          cases hsz : siz P e with
          | zero => exact absurd hsz hs
          | succ m => rw [hsz] at h; exact h
        cases h'
        intro fr h q out e' hn
        obtain ⟨l, e1, _, H'⟩ := fillF_ok (pm := fun i => some (i * siz P e, siz P e)) (fun _ _ h => h) e' hn
        refine ⟨_, e1, fun μ H w a o ho _ _ r => ?_⟩
        obtain ⟨h1, h2⟩ := hzr μ
        obtain ⟨ds, h3, h4, h5⟩ := H' μ a _ r h1 h2
        refine ⟨.agg ⟨ds⟩, exec_v (by unfold execOp; rw [ho]) ?_, .agg h4 h5⟩
        unfold Instr.build
        simp only [Sem.run_bind, zrun, Result.andThen_ok, run_underlying (und_ar hk), siz_run' hs, mapL]
        have h3' : Instr.fill (fun i => some (i * siz P e, siz P e)) v.cells (List.map (fun x => (x.1, a.eval x.2)) ps.toList) = some ⟨ds⟩ := h3
        simp only [h3', Sem.run_pure]
    | _ => simp only [hk, hz] at h; cases h

/-- An operation that only looks, in the interpreter, is one in the model. -/
theorem opC_rd {o : Op} {f} (h : opC o P = .rd f) : RdOk P o f := by
  cases o with
  | move x => exact oMove_ok x h
  | assign x => exact oAssign_ok x h
  | pick c x y => exact oPick_ok c x y h
  | build t ps => exact oBuild_ok t ps h
  | load t x => exact oLoad_ok t x h
  | nilCheck x => exact oNilCheck_ok x h
  | binOp op t x y u => exact oBin_ok op t u x y h
  | unOp op t x => exact oUn_ok op t x h
  | convert s t x => exact oConv_ok s t x h
  | makeFunc g x y => exact oMakeFunc_ok g x y h
  | slice t x lo hi mx => exact oSlice_ok t x lo hi mx h
  | fieldAddr t x i => exact oFieldAddr_ok t x i h
  | field t x i => exact oField_ok t x i h
  | indexAddr t x i => exact oIndexAddr_ok t x i h
  | index t x i => exact oIndex_ok t x i h
  | extract x i => exact oExtract_ok x i h
  | call c =>
    have h' : oCall c P = .rd f := h
    obtain ⟨callee, xs, ts⟩ := c
    cases callee with
    | value g => cases g <;> cases h'
    | invoke r m => cases h'
    | builtin b =>
      obtain ⟨xl⟩ := xs
      obtain ⟨tl⟩ := ts
      have h' : oBuiltin b tl xl P = .rd f := h'
      have no3 : ∀ {x y z : Operand} {l : List Operand}, xl = x :: y :: z :: l → False := fun e => by
        subst e
        cases b <;> cases tl <;> cases h'
      cases xl with
      | nil => cases b <;> cases tl <;> cases h'
      | cons x xl =>
        cases xl with
        | nil =>
          cases b with
          | len =>
            cases tl with
            | nil => cases h'
            | cons t tl => exact oLen_ok x t tl h'
          | clear =>
            cases tl with
            | nil => cases h'
            | cons t tl =>
              unfold oBuiltin at h'
              dsimp only at h'
              repeat' split at h'
              all_goals first | contradiction | cases h'
          | _ => cases tl <;> cases h'
        | cons y xl =>
          cases xl with
          | cons z xl => exact (no3 rfl).elim
          | nil =>
            cases b with
            | min => exact oMin_ok x y tl h'
            | max => exact oMax_ok x y tl h'
            | append =>
              unfold oBuiltin at h'
              repeat' split at h'
              all_goals first | contradiction | cases h'
            | copy =>
              unfold oBuiltin at h'
              repeat' split at h'
              all_goals first | contradiction | cases h'
            | _ => cases tl <;> cases h'
  | store t x y =>
    have h' : oStore t x y P = .rd f := h
    unfold oStore at h'
    repeat' split at h'
    all_goals cases h'
  | alloc e =>
    have h' : oAlloc e P = .rd f := h
    unfold oAlloc at h'
    repeat' split at h'
    all_goals cases h'
  | box e x =>
    have h' : oBox e x P = .rd f := h
    unfold oBox at h'
    repeat' split at h'
    all_goals cases h'
  | buildSlice t n ps =>
    have h' : oBuildSlice t n ps P = .rd f := h
    unfold oBuildSlice at h'
    repeat' split at h'
    all_goals cases h'
  | makeSlice t l c =>
    have h' : oMakeSlice t l c P = .rd f := h
    unfold oMakeSlice at h'
    repeat' split at h'
    all_goals cases h'
  | defer c =>
    have h' : oDefer c P = .rd f := h
    unfold oDefer at h'
    repeat' split at h'
    all_goals cases h'
  | _ => cases h

end
end Go.Proofs.YtlkbahknmbgjmaaGreat.Ev
