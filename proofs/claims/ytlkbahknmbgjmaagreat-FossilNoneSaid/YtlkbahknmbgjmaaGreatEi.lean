/-
  The interpreter's operations that turn memory.
  No conditions.
-/
import Derived.Test.YtlkbahknmbgjmaaGreatEh
import Derived.Laws.IdiomCopy
namespace Go.Proofs.YtlkbahknmbgjmaaGreat.Ev
open Go

/-! ### A call, as the model carries it out -/
/-- What a call comes to, whether the function has a body or is the model's own. -/
def CallWp (P : Program) (g : FuncId) (args : Array Value) (w : World) (K : Value → World → Prop) : Prop :=
  match (callFunc g args).run P w with
  | .ok (.value v) u => K v u
  | .ok (.enter f as) u => Calls P f as u fun e t => ∃ v, e = .returned v ∧ K v t
  | _ => False

def CallOk (P : Program) (g : FuncId) (l : List AV) (h : Hp) (v : AV) (h' : Hp) : Prop :=
  ∀ (μ : Mp) (w : World) (args : List Value), Rel μ h w → VRs μ l args → CallWp P g ⟨args⟩ w fun u w' => ∃ ν, Stp μ h w ν h' w' ∧ VR ν v u
def CaOk (P : Program) (ca : Ca) : Prop := ∀ g l h q out, ca.call g l h q = out → out ≠ .no → ∃ v h', q v h' = out ∧ CallOk P g l h v h'

/-- An operation that turns memory. -/
def WrOk (P : Program) (op : Op) (f : Ca → F → Hp → (AV → Hp → Out) → Out) : Prop :=
  ∀ ca, CaOk P ca → ∀ fr h q out, f ca fr h q = out → out ≠ .no → ∃ v h', q v h' = out ∧ ∀ (μ : Mp) (w : World) (a : Act) (o : Oper) (next : Act → World → Prop) (Q : Exit → Act → World → Prop),
    o.op = op → Rel μ h w → FR μ fr a.tmps → (∀ ν u w', Stp μ h w ν h' w' → VR ν v u → next (a.put o.dst u) w') → o.wp P a w next Q

section
variable {P : Program}

theorem wp_value {o : Oper} {a : Act} {w w' : World} {next : Act → World → Prop} {Q : Exit → Act → World → Prop} {u : Value} (h : (execOp a.eval o).run P w = .ok (.value u) w') (hk : next (a.put o.dst u) w') : o.wp P a w next Q := by
  unfold Oper.wp; rw [h]; exact hk
theorem wp_skip {o : Oper} {a : Act} {w w' : World} {next : Act → World → Prop} {Q : Exit → Act → World → Prop} (h : (execOp a.eval o).run P w = .ok .skip w') (hk : next (a.put o.dst undef) w') : o.wp P a w next Q := by
  unfold Oper.wp; rw [h]; exact hk

/-! ### Calls -/
theorem wp_call {o : Oper} {a : Act} {w : World} {next : Act → World → Prop} {Q : Exit → Act → World → Prop} {g : FuncId} {args : List Value} (h : (execOp a.eval o).run P w = (callFunc g ⟨args⟩).run P w)
    (hc : CallWp P g ⟨args⟩ w fun u w' => next (a.put o.dst u) w') : o.wp P a w next Q := by
  unfold Oper.wp
  unfold CallWp at hc
  rw [h]
  generalize (callFunc g ⟨args⟩).run P w = r at hc
  cases r with
  | ok x w' =>
    cases x <;> first | exact hc | exact hc.elim | skip
    exact Calls.mono hc fun e w'' ⟨v, he, hk⟩ => by subst he; exact hk
  | halt x w' => exact hc.elim

theorem CallWp.mono {g : FuncId} {args : Array Value} {w : World} {K K' : Value → World → Prop} (h : CallWp P g args w K) (hk : ∀ v u, K v u → K' v u) : CallWp P g args w K' := by
  unfold CallWp at *
  generalize (callFunc g args).run P w = r at *
  cases r with
  | ok x w' =>
    cases x <;> first | exact hk _ _ h | exact h.elim | skip
    exact Calls.mono h fun e w'' ⟨v, he, hv⟩ => ⟨v, he, hk _ _ hv⟩
  | halt x w' => exact h.elim

theorem oCall_ok (c : Call) {f} (h : oCall c P = .wr f) (hb : ∀ b, c.callee ≠ .builtin b) : WrOk P (.call c) f := by
  obtain ⟨callee, xs, ts⟩ := c
  cases callee with
  | builtin b => exact absurd rfl (hb b)
  | invoke r m => cases h
  | value g =>
    have harg : ∀ a : Act, xs.map a.eval = ⟨xs.toList.map a.eval⟩ := fun a => by apply Array.ext'; simp
    by_cases hg : ∃ k, g = .func k
    · obtain ⟨k, rfl⟩ := hg
      have h' : OpC.wr (fun ca fr h q => ca.call k ((opds xs.toList).of fr) h q) = .wr f := h
      cases h'
      intro ca hca fr h q out e hn
      obtain ⟨v, h', e1, H'⟩ := hca _ _ _ _ _ e hn
      refine ⟨v, h', e1, fun μ w a o next Q ho hrel r hk => ?_⟩
      refine wp_call (g := k) (args := xs.toList.map a.eval) ?_ ((H' μ w _ hrel (opds_rel r _)).mono fun u w' ⟨ν, s, hv⟩ => hk ν u w' s hv)
      unfold execOp; rw [ho]
      show (callFunc k (#[] ++ xs.map a.eval ++ #[])).run P w = _
      rw [harg]; simp
    · have h' : OpC.wr (fun ca fr h q => ((opd g).of fr).fn? fun k a b => ca.call k (a ++ (opds xs.toList).of fr ++ b) h q) = .wr f := by
        cases g <;> first | exact h | exact absurd ⟨_, rfl⟩ hg
      cases h'
      intro ca hca fr h q out e hn
      obtain ⟨k, l1, l2, hv, e1⟩ := fn?_inv e hn
      obtain ⟨v, h', e2, H'⟩ := hca _ _ _ _ _ e1 hn
      refine ⟨v, h', e2, fun μ w a o next Q ho hrel r hk => ?_⟩
      have hc := opd_rel r g
      rw [hv] at hc
      generalize hz : a.eval g = z at hc
      cases hc with
      | fn ha hb' =>
        rename_i as bs
        refine wp_call (g := k) (args := as ++ xs.toList.map a.eval ++ bs) ?_ ((H' μ w _ hrel ((ha.app (opds_rel r _)).app hb')).mono fun u w' ⟨ν, s, hv⟩ => hk ν u w' s hv)
        unfold execOp; rw [ho]
        show (do let d ← resolve a.eval ⟨.value g, xs, ts⟩ o.type; invoke d.target d.args : Sem Next).run P w = _
        simp only [resolve, hz, Deferred.ofValue]
        show (callFunc k ((⟨as⟩ ++ xs.map a.eval) ++ ⟨bs⟩)).run P w = _
        rw [harg]; simp

/-! ### Stores -/
theorem heap_setCells (b : Nat) : ∀ (vs : List Value) (o : Nat) (w : World) (x : Nat), x ≠ b → (w.setCells b o vs).heap[x]? = w.heap[x]?
  | [], _, _, _, _ => rfl
  | v :: vs, o, w, x, h => by
    rw [World.setCells, heap_setCells b vs (o + 1) _ x h]
    exact RowKit.Below.heap_setCell w ⟨b, o, none⟩ v x h
theorem size_setCells (b : Nat) : ∀ (vs : List Value) (o : Nat) (w : World), (w.setCells b o vs).heap.size = w.heap.size
  | [], _, _ => rfl
  | v :: vs, o, w => by rw [World.setCells, size_setCells b vs]; simp
theorem other_setCells (b : Nat) : ∀ (vs : List Value) (o : Nat) (w : World), (w.setCells b o vs).os = w.os ∧ (w.setCells b o vs).tape = w.tape ∧ (w.setCells b o vs).output = w.output
  | [], _, _ => ⟨rfl, rfl, rfl⟩
  | v :: vs, o, w => by rw [World.setCells]; exact other_setCells b vs (o + 1) _

/-- A block behind a store of vs at o. -/
theorem BR.stored {μ : Mp} {w : World} {k : Blk} {m : Lo} (r : BR μ w k m) {o : Nat} {l : List AV} {vs : List Value} (hl : VRs μ l vs) (h1 : ∀ v ∈ vs, v.oneCell' = true) (hle : o + l.length ≤ k.size)
    {c : Cs} (hok : CsOk k.size c) (hget : ∀ j, j < k.size → Cs.get j c = if o ≤ j ∧ j < o + l.length then l[j - o]?.getD .top else Cs.get j k.cs) : BR μ (w.setCells m.blk (m.base + o) vs) (k.wth c) m where
  ok := hok
  cell i hi := by
    have hi : i < k.size := hi
    show ∃ v, _ ∧ VR μ (Cs.get i c) v ∧ _
    rw [hget i hi]
    have hlen := hl.length
    by_cases h : o ≤ i ∧ i < o + l.length
    · rw [if_pos h]
      obtain ⟨j, rfl⟩ : ∃ j, i = o + j := ⟨i - o, by omega⟩
      have hj : j < vs.length := by omega
      have e : o + j - o = j := by omega
      rw [e]
      obtain ⟨v, hv, hr⟩ := hl.get (i := j) (x := l[j]'(by omega)) (by simp)
      refine ⟨v, ?_, by rw [List.getElem?_eq_getElem (by omega)]; exact hr, h1 v (List.mem_of_getElem? hv)⟩
      have := World.cell?_setCells_in m.blk vs (m.base + o) w (fun j' hj' => by
        have := (r.there (o + j') (by omega)).1
        rwa [← Nat.add_assoc] at this) j hj
      rw [← Nat.add_assoc, this]
      rw [List.getElem?_eq_getElem hj] at hv; exact hv
    · rw [if_neg h]
      obtain ⟨v, h2, h3⟩ := r.cell i hi
      refine ⟨v, ?_, h3⟩
      rw [World.cell?_setCells_out m.blk vs (m.base + o) w _ (fun _ _ => by dsimp only; omega)]; exact h2
  there i hi := ⟨World.isSome_setCells m.blk vs (m.base + o) w _ (r.there i hi).1, by rw [World.frozen?_setCells]; exact (r.there i hi).2⟩
  gr := r.gr
  sb h0 x := by rw [World.frozen?_setCells]; exact r.sb h0 x

theorem Stp.store {μ : Mp} {h : Hp} {w : World} (r : Rel μ h w) {b : Nat} {k : Blk} {m : Lo} (hk : h.get b = .of k) (hm : μ b = some m) {o : Nat} {l : List AV} {vs : List Value} (hl : VRs μ l vs)
    (h1 : ∀ v ∈ vs, v.oneCell' = true) (hle : o + l.length ≤ k.size) {c : Cs} (hok : CsOk k.size c)
    (hget : ∀ j, j < k.size → Cs.get j c = if o ≤ j ∧ j < o + l.length then l[j - o]?.getD .top else Cs.get j k.cs) :
    Stp μ h w μ (h.set b (.of (k.wth c))) (w.setCells m.blk (m.base + o) vs) := by
  obtain ⟨o1, o2, o3⟩ := other_setCells m.blk vs (m.base + o) w
  have hnx := r.nx
  have hb := (r.lt b m hm).1
  have hg : ∀ x, x < h.next → (h.set b (.of (k.wth c))).get x = if x = b then .of (k.wth c) else h.get x := fun x hx => get_set _ (by omega) (by omega)
  have hbr := (r.br b k m hk hm).stored hl h1 hle hok hget
  exact {
    le := μ.le_refl
    new := fun _ _ h => .inl h
    rel := by
      refine ⟨fun x n hx => by rw [size_setCells]; exact r.lt x n hx, fun x l' n hl' hx => ?_, fun x y l1 l2 n1 n2 h1 h2 hx hy hne => ?_, hnx, fun x hx hx' => ?_⟩
      · rw [hg x (r.lt x n hx).1] at hl'
        by_cases e : x = b
        · rw [if_pos e] at hl'
          cases hl'
          subst e
          rw [hm] at hx; cases hx
          exact hbr
        · rw [if_neg e] at hl'
          have hne := r.inj x b l' k n m hl' hk hx hm e
          exact (r.br x l' n hl' hx).keep μ.le_refl (heap_setCells _ _ _ _ _ hne)
      · have a1 : ∃ l, h.get x = .of l := by
          rw [hg x (r.lt x n1 hx).1] at h1
          by_cases e : x = b
          · subst e; exact ⟨k, hk⟩
          · rw [if_neg e] at h1; exact ⟨_, h1⟩
        have a2 : ∃ l, h.get y = .of l := by
          rw [hg y (r.lt y n2 hy).1] at h2
          by_cases e : y = b
          · subst e; exact ⟨k, hk⟩
          · rw [if_neg e] at h2; exact ⟨_, h2⟩
        obtain ⟨q1, a1⟩ := a1
        obtain ⟨q2, a2⟩ := a2
        exact r.inj x y q1 q2 n1 n2 a1 a2 hx hy hne
      · have hx : h.next ≤ x := hx
        have : (h.set b (.of (k.wth c))).get x = if x = b then .of (k.wth c) else h.get x := get_set _ hx' (by omega)
        rw [this, if_neg (by omega)]; exact r.fresh x hx hx'
    next := Nat.le_refl _
    same := fun x hx hn => by
      rw [hg x hx, if_neg (fun e => by subst e; rw [hm] at hn; cases hn)]
    live := fun x l' n hl' hx => by
      rw [hg x (r.lt x n hx).1] at hl'
      by_cases e : x = b
      · subst e; exact ⟨k, hk⟩
      · rw [if_neg e] at hl'; exact ⟨_, hl'⟩
    foot := fun x _ hx => heap_setCells _ _ _ _ _ fun e => hx ⟨b, k, m, hk, hm, e.symm⟩
    os := o1
    tape := o2
    output := o3
    size := by rw [size_setCells]; exact Nat.le_refl _ }

/-- The cells that a store wants there. -/
theorem BR.room {μ : Mp} {w : World} {k : Blk} {m : Lo} (r : BR μ w k m) {o n : Nat} (h : o + n ≤ k.size + m.ext * k.es) : w.there m.blk (m.base + o) n := fun j hj => by
  have := r.there (o + j) (by omega)
  rwa [← Nat.add_assoc] at this

theorem storeCells_run {w : World} {b o : Nat} {vs : List Value} (ht : w.there b o vs.length) (h1 : ∀ v ∈ vs, v.oneCell' = true) : (storeCells ⟨b, o, none⟩ vs).run P w = .ok () (w.setCells b o vs) := by
  have := run_storeCells_cells (P := P) b o vs 0 w (fun j hj => by simpa using (ht j hj).1) (fun j hj => by simpa using (ht j hj).2) h1
  simpa using this

theorem storeAt_run {t : TypeId} {w : World} {b o : Nat} {v : Value} {vs : List Value} (hs : (sizeOf t).run P w = .ok vs.length w) (hc : v.cells = ⟨vs⟩) (ht : w.there b o vs.length) (h1 : ∀ v ∈ vs, v.oneCell' = true) :
    (Instr.storeAt t (.pointer (some ⟨b, o, none⟩)) v).run P w = .ok () (w.setCells b o vs) := by
  unfold Instr.storeAt storeVar
  simp only [Sem.run_bind, Instr.sureAddr, Sem.run_pure, Result.andThen_ok, hs]
  have hne : ¬ v.cells.size ≠ vs.length := by rw [hc]; simp
  rw [if_neg hne, hc]
  exact storeCells_run ht h1

theorem oStore_ok (t : TypeId) (x y : Operand) {f} (h : oStore t x y P = .wr f) : WrOk P (.store t x y) f := by
  unfold oStore at h
  generalize hk : kd P t = z at h
  by_cases hno : z = .no
  · subst hno; cases h
  · have h' : (match aggK z with
      | true => OpC.wr fun _ fr h q => ((opd x).of fr).ptr? fun b o => ((opd y).of fr).agg? fun l => h.blk? b fun k => bif? (q (.tup []) (h.set b (.of (k.wth (Cs.puts l o k.cs))))) .no (Nat.beq (len l) (siz P t) && Nat.ble (o + siz P t) k.size)
      | false => match siz P t with
        | 1 => .wr fun _ fr h q => ((opd x).of fr).ptr? fun b o => h.blk? b fun k => bif? .no (one? ((opd y).of fr) (q (.tup []) (h.set b (.of (k.wth (Cs.put o ((opd y).of fr) k.cs)))))) (Nat.ble k.size o)
        | _ => .no) = .wr f := by
      cases z <;> first | exact h | exact absurd rfl hno
    have hsz : ∀ w : World, (sizeOf t).run P w = .ok (siz P t) w := siz_run hk hno
    have run : ∀ (a : Act) (o : Oper) (w w' : World), o.op = .store t x y → (Instr.storeAt t (a.eval x) (a.eval y)).run P w = .ok () w' → (execOp a.eval o).run P w = .ok .skip w' := fun a o w w' ho hs => by
      unfold execOp; rw [ho]
      show (do Instr.storeAt t (a.eval x) (a.eval y); pure Next.skip : Sem Next).run P w = _
      rw [Sem.run_bind, hs]; rfl
    cases ha : aggK z with
    | true =>
      rw [ha] at h'
      cases h'
      intro ca hca fr h q out e hn
      obtain ⟨b, o, hb, e1⟩ := ptr?_inv e hn
      obtain ⟨l, hl, e2⟩ := agg?_inv e1 hn
      obtain ⟨k, hk', e3⟩ := blk?_inv e2 hn
      obtain ⟨hbb, e4⟩ := bif_yes e3 hn
      simp only [Bool.and_eq_true] at hbb
      have hls : l.length = siz P t := by rw [← len_eq]; exact Nat.eq_of_beq_eq_true hbb.1
      have hle := Nat.le_of_ble_eq_true hbb.2
      refine ⟨_, _, e4, fun μ w a o' next Q ho hrel r hk => ?_⟩
      have hx := opd_rel r x
      rw [hb] at hx
      obtain ⟨m, hm, hxx⟩ := ptr_inv hx
      have hy := opd_rel r y
      rw [hl] at hy
      obtain ⟨vs, hyy, hvs, h1⟩ := agg_inv hy
      have hbr := hrel.br b k m hk' hm
      have hlen := hvs.length
      obtain ⟨c1, c2⟩ := Cs.puts_ok l o k.cs hbr.ok (by omega)
      refine wp_skip (run a o' w (w.setCells m.blk (m.base + o) vs) ho ?_) (hk μ _ _ (Stp.store hrel hk' hm hvs h1 (by omega) c1 c2) (.tup .nil))
      rw [hxx, hyy]
      exact storeAt_run (by rw [hsz]; congr 1; omega) rfl (hbr.room (by omega)) h1
    | false =>
      rw [ha] at h'
      by_cases hs1 : siz P t = 1
      · simp only [hs1] at h'
        cases h'
        intro ca hca fr h q out e hn
        obtain ⟨b, o, hb, e1⟩ := ptr?_inv e hn
        obtain ⟨k, hk', e3⟩ := blk?_inv e1 hn
        obtain ⟨hbb, e4⟩ := bif_no e3 hn
        have hlt := ge_of_ble hbb
        obtain ⟨e5, hone⟩ := one?_inv e4 hn
        refine ⟨_, _, e5, fun μ w a o' next Q ho hrel r hk => ?_⟩
        have hx := opd_rel r x
        rw [hb] at hx
        obtain ⟨m, hm, hxx⟩ := ptr_inv hx
        have hy := opd_rel r y
        have h1 := hone hy
        have hbr := hrel.br b k m hk' hm
        have hcells : (a.eval y).cells = ⟨[a.eval y]⟩ := by
          generalize a.eval y = z at h1
          cases z <;> first | rfl | cases h1
        refine wp_skip (run a o' w (w.setCells m.blk (m.base + o) [a.eval y]) ho ?_) (hk μ _ _ (Stp.store (l := [(opd y).of fr]) hrel hk' hm (.cons hy .nil) (fun v hv => by cases hv with | head => exact h1 | tail _ h => cases h) (by simp; omega) (Cs.put_ok hbr.ok o hlt _) (fun j hj => ?_)) (.tup .nil))
        · rw [hxx]
          exact storeAt_run (by rw [hsz, hs1]; rfl) hcells (hbr.room (by simp; omega)) (fun v hv => by cases hv with | head => exact h1 | tail _ h => cases h)
        · by_cases e : j = o
          · subst e; rw [Cs.get_put hbr.ok j hlt, if_pos (by simp)]; simp
          · rw [Cs.get_put_ne hbr.ok o j hlt hj e, if_neg (by simp; omega)]
      · have : (match siz P t with
          | 1 => OpC.wr fun _ fr h q => ((opd x).of fr).ptr? fun b o => h.blk? b fun k => bif? .no (one? ((opd y).of fr) (q (.tup []) (h.set b (.of (k.wth (Cs.put o ((opd y).of fr) k.cs)))))) (Nat.ble k.size o)
          | _ => .no) = .no := by
          split
          · rename_i e; exact absurd e hs1
          · rfl
        rw [this] at h'; cases h'

end
end Go.Proofs.YtlkbahknmbgjmaaGreat.Ev
