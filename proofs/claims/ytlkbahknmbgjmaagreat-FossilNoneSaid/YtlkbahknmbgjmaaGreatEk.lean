/-
  The interpreter's append, copy, clear: the operations.
  No conditions.
-/
import Derived.Test.YtlkbahknmbgjmaaGreatEj
import Derived.Laws.AppendOwn
namespace Go.Proofs.YtlkbahknmbgjmaaGreat.Ev
open Go

section
variable {P : Program}

theorem exec_builtin {o : Oper} {a : Act} {b : Builtin} {xs : Array Operand} {ts : Array TypeId} {w w' : World} {v : Value} (ho : o.op = .call ⟨.builtin b, xs, ts⟩)
    (h : (builtin b ts o.type (xs.map fun | .const _ => true | _ => false) (xs.map a.eval)).run P w = .ok (.value v) w') : (execOp a.eval o).run P w = .ok (.value v) w' := by
  unfold execOp; rw [ho]
  show ((do let d ← resolve a.eval ⟨.builtin b, xs, ts⟩ o.type; invoke d.target d.args : Sem Next)).run P w = _
  rw [resolve_builtin]; exact h

theorem append_run {n byt' : Nat} {t tx e ty : TypeId} {i : TypeInfo} {z : Value} {μ : Mp} {h h' : Hp} {w : World} {S X : Value} {r : Nat} {news : List Value} {v : AV}
    (ht : P.underlying t = some (.slice e)) (hx : (∃ e', P.underlying tx = some (.slice e')) ∨ P.underlying tx = some .string) (hi : P.info? e = some i) (hz : i.zero = some z) (hn : i.size = n) (hn0 : n ≠ 0)
    (hb : i.bytes = byt') (hzs : z.cells.size = n) (hlen : ∀ u : World, (Builtin.lenOf X).run P u = .ok r u) (H : Have P n w X r news) (G : Grown P n byt' μ h w S r news v h') :
    ∃ u w' ν, (Builtin.append_ #[t, tx] ty #[S, X]).run P w = .ok u w' ∧ Stp μ h w ν h' w' ∧ VR ν v u := by
  subst hn hb
  have hsrc : Src P i.size tx X r news w := ⟨hx, hlen, H.cells, H.cellsD, H.len, H.one⟩
  obtain ⟨base, L, C, rfl, hG | hG | hG⟩ := G
  · obtain ⟨rfl, rfl, hs, hv⟩ := hG
    refine ⟨_, _, μ, ?_, hs, hv⟩
    have hnil : news = [] := List.eq_nil_of_length_eq_zero (by rw [H.len]; simp)
    subst hnil
    cases base <;> rcases hx with ⟨e', hk⟩ | hk <;> simp [Builtin.append_, run_underlying ht, run_underlying hk, sizeOf, typeInfo, hi, hlen, H.cells, storeCells]
  · obtain ⟨hle, blk, off, rfl, hth, ν, hs, hv⟩ := hG
    refine ⟨_, _, ν, ?_, hs, hv⟩
    exact run_append_room_src w t tx ty e i ht hi blk off L C X r news hsrc hle (fun j hj => (hth j (by rw [H.len] at hj; exact hj)).1) (fun j hj => (hth j (by rw [H.len] at hj; exact hj)).2)
  · obtain ⟨hlt, h20, hby, olds, hol, hof, hk⟩ := hG
    obtain ⟨ν, hs, hv⟩ := hk e (Builtin.zeroCells z.cells (grownCap w (L + r) C e - (L + r))) (grownCap w (L + r) C e) (grownCap_ge w _ _ _) (by rw [size_zeroCells, hzs])
    refine ⟨_, _, ν, ?_, hs, hv⟩
    have hfit : Builtin.nextslicecap (L + r) C * i.bytes ≤ 281474976710656 := by
      apply growslice_fits hlt
      have := Nat.mul_le_mul h20 hby
      omega
    have := run_append_grow_src w t tx ty e i z ht hi hz base L C olds hof X r news hsrc hlt (by omega) hfit
    rw [this]

theorem oAppend_ok (x y : Operand) (ts : List TypeId) {f} (h : oBuiltin .append ts [x, y] P = .wr f) : WrOk P (.call ⟨.builtin .append, ⟨[x, y]⟩, ⟨ts⟩⟩) f := by
  match ts, h with
  | [], h => cases h
  | [_], h => cases h
  | _ :: _ :: _ :: _, h => cases h
  | [t, u], h =>
    have key : ∀ e m z, kd P t = .sl e → ((∃ e', P.underlying u = some (.slice e')) ∨ P.underlying u = some .string) → zelem P e = some (m, z) → f = (fun _ fr h q => appendTo m (byt P e) h ((opd x).of fr) ((opd y).of fr) q) → WrOk P (.call ⟨.builtin .append, ⟨[x, y]⟩, ⟨[t, u]⟩⟩) f := by
      intro e m z hk hu hz hf
      subst hf
      obtain ⟨i, v0, hm, hsr, hi, hi1, hi2, hi3, hi4, hi5, hzr⟩ := zelem_ok hz
      intro ca hca fr h q out e1 hn
      obtain ⟨r, cs, e2, _, H'⟩ := src_ok (P := P) e1 hn
      obtain ⟨v, h', e3, G'⟩ := grow_ok (P := P) e2 hn
      refine ⟨v, h', e3, fun μ w a o next Q ho hrel r' hk' => ?_⟩
      obtain ⟨L, news, hl1, hl2, hc, hH⟩ := H' μ w _ hrel (opd_rel r' y)
      have hl2 : r = L := hl2
      subst hl2
      have G := G' μ w _ news hrel (opd_rel r' x) hc hH.one hH.len
      obtain ⟨u', w', ν, hr, hs, hv⟩ := append_run (ty := o.type) (tx := u) (und_sl hk) hu hi hi3 hi1 hm hi2 hi4 hl1 hH G
      refine wp_value (exec_builtin ho ?_) (hk' ν u' w' hs hv)
      have he : (builtin .append ⟨[t, u]⟩ o.type (#[x, y].map fun | .const _ => true | _ => false) (#[x, y].map a.eval)) = (do pure (Next.value (← Builtin.append_ #[t, u] o.type #[a.eval x, a.eval y])) : Sem Next) := by simp [builtin]
      rw [he, Sem.run_bind, hr]; rfl
    unfold oBuiltin at h
    dsimp only at h
    split at h
    · rename_i e e' hk hu
      split at h
      · cases h
      · rename_i m z hz
        injection h with h
        exact key e m z hk (.inl ⟨_, und_sl hu⟩) hz h.symm
    · rename_i e hk hu
      split at h
      · cases h
      · rename_i m z hz
        injection h with h
        exact key e m z hk (.inr (und_s hu)) hz h.symm
    · cases h

theorem setCells_nil (w : World) (b o : Nat) : w.setCells b o [] = w := rfl

theorem oCopy_ok (x y : Operand) (ts : List TypeId) {f} (h : oBuiltin .copy ts [x, y] P = .wr f) : WrOk P (.call ⟨.builtin .copy, ⟨[x, y]⟩, ⟨ts⟩⟩) f := by
  match ts, h with
  | [], h => cases h
  | t :: ts, h =>
    have key : ∀ e n, kd P t = .sl e → siz P e = n → n ≠ 0 → f = (fun _ fr h q => copyTo n h ((opd x).of fr) ((opd y).of fr) q) → WrOk P (.call ⟨.builtin .copy, ⟨[x, y]⟩, ⟨t :: ts⟩⟩) f := by
      intro e n hk hs hn0 hf
      subst hf
      have hsz : ∀ w : World, (sizeOf e).run P w = .ok n w := fun w => by have := siz_run' (P := P) (t := e) (by rw [hs]; exact hn0) w; rwa [hs] at this
      have run : ∀ (a : Act) (o : Oper) (w w' : World) (v : Value), o.op = .call ⟨.builtin .copy, ⟨[x, y]⟩, ⟨t :: ts⟩⟩ → (Builtin.copy_ ⟨t :: ts⟩ o.type #[a.eval x, a.eval y]).run P w = .ok v w' → (execOp a.eval o).run P w = .ok (.value v) w' := fun a o w w' v ho hr => by
        refine exec_builtin ho ?_
        have he : (builtin .copy ⟨t :: ts⟩ o.type (#[x, y].map fun | .const _ => true | _ => false) (#[x, y].map a.eval)) = (do pure (Next.value (← Builtin.copy_ ⟨t :: ts⟩ o.type #[a.eval x, a.eval y])) : Sem Next) := by simp [builtin]
        rw [he, Sem.run_bind, hr]; rfl
      intro ca hca fr h q out e1 hn
      have e1 : copyTo n h ((opd x).of fr) ((opd y).of fr) q = out := e1
      generalize hX : (opd x).of fr = X at e1
      generalize hY : (opd y).of fr = Y at e1
      have nil : X = .nils → q (.int .i64 (.ofNat 0)) h = out → (∀ (μ : Mp) (v : Value) (w : World), VR μ Y v → ∃ L, (Builtin.lenOf v).run P w = .ok L w ∧ (Builtin.firstCells n 0 v).run P w = .ok #[] w) →
          ∃ v h', q v h' = out ∧ ∀ (μ : Mp) (w : World) (a : Act) (o : Oper) (next : Act → World → Prop) (Q : Exit → Act → World → Prop), o.op = .call ⟨.builtin .copy, ⟨[x, y]⟩, ⟨t :: ts⟩⟩ → Rel μ h w → FR μ fr a.tmps → (∀ ν u w', Stp μ h w ν h' w' → VR ν v u → next (a.put o.dst u) w') → o.wp P a w next Q := by
        intro hn' e2 hv
        subst hn'
        refine ⟨_, _, e2, fun μ w a o next Q ho hrel r' hk' => ?_⟩
        have hx := opd_rel r' x
        rw [hX] at hx
        have hx := nils_inv hx
        have hy := opd_rel r' y
        rw [hY] at hy
        obtain ⟨L, h1, h2⟩ := hv μ _ w hy
        refine wp_value (u := .int .i64 (0 : Int)) (run a o w w _ ho ?_) (hk' μ _ _ (Stp.refl hrel) (.int _ _))
        rw [hx]
        simp [Builtin.copy_, run_underlying (und_sl hk), h1, hsz, h2, goInt]
      cases X with
      | nils =>
        cases Y with
        | nils => exact nil rfl e1 fun μ v w hv => by rw [nils_inv hv]; exact ⟨0, rfl, rfl⟩
        | emp => exact nil rfl e1 fun μ v w hv => by cases hv; exact ⟨0, rfl, by simp [Builtin.firstCells, loadCells, loadCellsFrom]⟩
        | slc b o len cap ex => exact nil rfl e1 fun μ v w hv => by obtain ⟨m, hm, rfl⟩ := slc_inv hv; exact ⟨len, rfl, by simp [Builtin.firstCells, loadCells, loadCellsFrom]⟩
        | str s =>
          refine nil rfl e1 fun μ v w hv => ?_
          obtain ⟨b, rfl, hb⟩ := str_inv hv
          exact ⟨b.size, rfl, by show (Builtin.firstCells 1 0 (.string b)).run P w = _; simpa using firstCells_str (P := P) w b 0 (Nat.zero_le _)⟩
        | _ => exact absurd e1.symm hn
      | slc b o len cap ex =>
        have e1 : src n h Y (some len) (fun r cells => h.blk? b fun k => bif? (q (.int .i64 (.ofNat r)) (h.set b (.of (k.wth (Cs.puts cells o k.cs))))) .no (Nat.ble (o + r * n) k.size)) = out := e1
        obtain ⟨r, cs, e2, hrl, H'⟩ := src_ok (P := P) e1 hn
        obtain ⟨k, hk2, e3⟩ := blk?_inv e2 hn
        obtain ⟨hb, e4⟩ := bif_yes e3 hn
        have hb := Nat.le_of_ble_eq_true hb
        refine ⟨_, _, e4, fun μ w a o' next Q ho hrel r' hk' => ?_⟩
        have hx := opd_rel r' x
        rw [hX] at hx
        obtain ⟨m, hm, hx⟩ := slc_inv hx
        have hy := opd_rel r' y
        rw [hY] at hy
        obtain ⟨L, news, hl1, hl2, hc, hH⟩ := H' μ w _ hrel hy
        have hl2 : r = Nat.min L len := hl2
        have hbr := hrel.br b k m hk2 hm
        have hlen := hc.length
        have hnl := hH.len
        obtain ⟨c1, c2⟩ := Cs.puts_ok cs o k.cs hbr.ok (by omega)
        refine wp_value (u := .int .i64 (r : Int)) (run a o' w (w.setCells m.blk (m.base + o) news) _ ho ?_) (hk' μ _ _ (Stp.store hrel hk2 hm hc hH.one (by omega) c1 c2) (.int _ _))
        rw [hx]
        have hst := storeCells_run (P := P) (hbr.room (o := o) (n := news.length) (by omega)) hH.one
        simp [Builtin.copy_, run_underlying (und_sl hk), hl1, ← hl2, hsz, hH.cells, hst, goInt]
      | _ => exact absurd e1.symm hn
    unfold oBuiltin at h
    dsimp only at h
    split at h
    · rename_i e hk
      split at h
      · cases h
      · rename_i n hs
        injection h with h
        exact key e _ hk rfl hs h.symm
    · cases h

theorem oClear_ok (x : Operand) (ts : List TypeId) {f} (h : oBuiltin .clear ts [x] P = .wr f) : WrOk P (.call ⟨.builtin .clear, ⟨[x]⟩, ⟨ts⟩⟩) f := by
  match ts, h with
  | [], h => cases h
  | t :: ts, h =>
    have key : ∀ e m z, kd P t = .sl e → zelem P e = some (m, z) → f = (fun _ fr h q => clearAll m z h ((opd x).of fr) q) → WrOk P (.call ⟨.builtin .clear, ⟨[x]⟩, ⟨t :: ts⟩⟩) f := by
      intro e m z hk hz hf
      subst hf
      obtain ⟨i, v0, hm, hsr, hi, hi1, hi2, hi3, hi4, hi5, hzr⟩ := zelem_ok hz
      have run : ∀ (a : Act) (o : Oper) (w w' : World) (v : Value), o.op = .call ⟨.builtin .clear, ⟨[x]⟩, ⟨t :: ts⟩⟩ → (Builtin.clear_ ⟨t :: ts⟩ o.type #[a.eval x]).run P w = .ok v w' → (execOp a.eval o).run P w = .ok (.value v) w' := fun a o w w' v ho hr => by
        refine exec_builtin ho ?_
        have he : (builtin .clear ⟨t :: ts⟩ o.type (#[x].map fun | .const _ => true | _ => false) (#[x].map a.eval)) = (do pure (Next.value (← Builtin.clear_ ⟨t :: ts⟩ o.type #[a.eval x])) : Sem Next) := by simp [builtin]
        rw [he, Sem.run_bind, hr]; rfl
      intro ca hca fr h q out e1 hn
      have e1 : clearAll m z h ((opd x).of fr) q = out := e1
      generalize hX : (opd x).of fr = X at e1
      cases X with
      | nils =>
        refine ⟨_, _, show q (.tup []) h = out from e1, fun μ w a o next Q ho hrel r' hk' => ?_⟩
        have hx := opd_rel r' x
        rw [hX] at hx
        have hx := nils_inv hx
        refine wp_value (u := .tuple #[]) (run a o w w _ ho ?_) (hk' μ _ _ (Stp.refl hrel) (.tup .nil))
        rw [hx]
        simp [Builtin.clear_, run_underlying (und_sl hk)]
      | slc b o len cap ex =>
        obtain ⟨k, hk2, e2⟩ := blk?_inv (show h.blk? b _ = out from e1) hn
        -- the store
        have key : ∀ c, q (.tup []) (h.set b (.of (k.wth c))) = out → o + len * m ≤ k.size → (CsOk k.size k.cs → CsOk k.size c ∧ ∀ j, j < k.size → Cs.get j c = if o ≤ j ∧ j < o + (List.replicate len z).flatten.length then (List.replicate len z).flatten[j - o]?.getD .top else Cs.get j k.cs) →
            ∃ v h', q v h' = out ∧ ∀ (μ : Mp) (w : World) (a : Act) (o : Oper) (next : Act → World → Prop) (Q : Exit → Act → World → Prop), o.op = .call ⟨.builtin .clear, ⟨[x]⟩, ⟨t :: ts⟩⟩ → Rel μ h w → FR μ fr a.tmps → (∀ ν u w', Stp μ h w ν h' w' → VR ν v u → next (a.put o.dst u) w') → o.wp P a w next Q := by
          intro c e3 hle hc
          refine ⟨_, _, e3, fun μ w a o' next Q ho hrel r' hk' => ?_⟩
          have hx := opd_rel r' x
          rw [hX] at hx
          obtain ⟨mm, hmm, hx⟩ := slc_inv hx
          have hbr := hrel.br b k mm hk2 hmm
          obtain ⟨z1, z2⟩ := hzr μ
          have hvs := z1.flat len
          have h1 := one_flat z2 len
          have hzl : (List.replicate len z).flatten.length = len * m := by rw [flat_length, hi5]
          obtain ⟨c1, c2⟩ := hc hbr.ok
          have hst := Stp.store hrel hk2 hmm (o := o) hvs h1 (by omega) c1 c2
          refine wp_value (u := .tuple #[]) (run a o' w _ _ ho ?_) (hk' μ _ _ hst (.tup .nil))
          rw [hx]
          have hvl : (List.replicate len v0.cells.toList).flatten.length = len * m := by rw [← hvs.length, hzl]
          have hsc := storeCells_run (P := P) (hbr.room (o := o) (n := (List.replicate len v0.cells.toList).flatten.length) (by omega)) h1
          have hzc : (Builtin.zeroCells v0.cells len).toList = (List.replicate len v0.cells.toList).flatten := zero_row v0.cells len _ rfl (by omega)
          rw [← hzc] at hsc
          rw [← hzc]
          by_cases hl0 : len = 0
          · subst hl0
            have : (Builtin.zeroCells v0.cells 0).toList = [] := by rw [hzc]; rfl
            rw [this]
            simp [Builtin.clear_, run_underlying (und_sl hk), setCells_nil]
          · obtain ⟨l', rfl⟩ : ∃ l', len = l' + 1 := ⟨len - 1, by omega⟩
            simp [Builtin.clear_, run_underlying (und_sl hk), zeroValue, typeInfo, hi, hi3, hsc]
        have hzl : (List.replicate len z).flatten.length = len * m := by rw [flat_length, hi5]
        have slow : (bif? (q (.tup []) (h.set b (.of (k.wth (Cs.puts (List.replicate len z).flatten o k.cs))))) .no (Nat.ble (o + len * m) k.size)) = out → _ := fun e3 => by
          obtain ⟨hb, e4⟩ := bif_yes e3 hn
          have hb := Nat.le_of_ble_eq_true hb
          exact key _ e4 hb fun hok => Cs.puts_ok _ o k.cs hok (by omega)
        cases hs : same z with
        | none => rw [hs] at e2; exact slow e2
        | some v =>
          cases hb : Nat.beq o 0 && Nat.beq (len * m) k.size with
          | false => rw [hs, hb] at e2; exact slow e2
          | true =>
            rw [hs, hb] at e2
            simp only [Bool.and_eq_true] at hb
            have ho : o = 0 := Nat.eq_of_beq_eq_true hb.1
            have hsz : len * m = k.size := Nat.eq_of_beq_eq_true hb.2
            cases hbl : blank k.size m v with
            | none => simp only [hbl] at e2; exact absurd e2.symm hn
            | some c =>
              simp only [hbl] at e2
              obtain ⟨c1, c2⟩ := blank_ok hbl
              refine key c e2 (by omega) fun _ => ⟨c1, fun j hj => ?_⟩
              rw [c2 j hj, if_pos (by omega)]
              have hj' : j - o < len * z.length := by rw [hi5]; omega
              rw [flat_get z len _ hj']
              have : (j - o) % z.length < z.length := Nat.mod_lt _ (by omega)
              rw [List.getElem?_eq_getElem this]
              exact (same_ok hs _ (List.getElem_mem this)).symm
      | _ => exact absurd e1.symm hn
    unfold oBuiltin at h
    dsimp only at h
    split at h
    · rename_i e hk
      split at h
      · cases h
      · rename_i m z hz
        injection h with h
        exact key e m z hk hz h.symm
    · cases h

/-- An operation that turns memory, in the interpreter, is one in the model. -/
theorem opC_wr {o : Op} {f} (h : opC o P = .wr f) : WrOk P o f := by
  cases o with
  | store t x y => exact oStore_ok t x y h
  | call c =>
    have h' : oCall c P = .wr f := h
    by_cases hb : ∃ b, c.callee = .builtin b
    · obtain ⟨callee, xs, ts⟩ := c
      obtain ⟨b, hb⟩ := hb
      have hb : callee = .builtin b := hb
      subst hb
      obtain ⟨xl⟩ := xs
      obtain ⟨tl⟩ := ts
      have h' : oBuiltin b tl xl P = .wr f := h'
      cases xl with
      | nil => cases b <;> cases tl <;> cases h'
      | cons x xl =>
        cases xl with
        | nil =>
          cases b with
          | clear => exact oClear_ok x tl h'
          | len =>
            unfold oBuiltin at h'
            repeat' split at h'
            all_goals first | contradiction | cases h'
          | _ => cases tl <;> cases h'
        | cons y xl =>
          cases xl with
          | cons z xl => cases b <;> cases tl <;> cases h'
          | nil =>
            cases b with
            | append => exact oAppend_ok x y tl h'
            | copy => exact oCopy_ok x y tl h'
            | _ => cases tl <;> cases h'
    · exact oCall_ok c h' fun b e => hb ⟨b, e⟩
  | move x =>
    have h' : oMove x P = .wr f := h
    unfold oMove at h'
    repeat' split at h'
    all_goals first | contradiction | cases h'
  | assign x =>
    have h' : oMove x P = .wr f := h
    unfold oMove at h'
    repeat' split at h'
    all_goals first | contradiction | cases h'
  | pick c x y =>
    have h' : oPick c x y P = .wr f := h
    unfold oPick at h'
    repeat' split at h'
    all_goals first | contradiction | cases h'
  | nilCheck x =>
    have h' : oNilCheck x P = .wr f := h
    unfold oNilCheck at h'
    repeat' split at h'
    all_goals first | contradiction | cases h'
  | extract x i =>
    have h' : oExtract x i P = .wr f := h
    unfold oExtract at h'
    repeat' split at h'
    all_goals first | contradiction | cases h'
  | build t ps =>
    have h' : oBuild t ps P = .wr f := h
    unfold oBuild at h'
    repeat' split at h'
    all_goals first | contradiction | cases h'
  | load t x =>
    have h' : oLoad t x P = .wr f := h
    unfold oLoad at h'
    repeat' split at h'
    all_goals first | contradiction | cases h'
  | binOp op t x y u =>
    have h' : oBin op t x y u P = .wr f := h
    unfold oBin eqB eqP eqN at h'
    repeat' split at h'
    all_goals first | contradiction | cases h'
  | unOp op t x =>
    have h' : oUn op t x P = .wr f := h
    unfold oUn at h'
    repeat' split at h'
    all_goals first | contradiction | cases h'
  | convert s t x =>
    have h' : oConv s t x P = .wr f := h
    unfold oConv at h'
    repeat' split at h'
    all_goals first | contradiction | cases h'
  | makeFunc g x y =>
    have h' : oMakeFunc g x y P = .wr f := h
    unfold oMakeFunc at h'
    repeat' split at h'
    all_goals first | contradiction | cases h'
  | slice t x lo hi mx =>
    have h' : oSlice t x lo hi mx P = .wr f := h
    unfold oSlice at h'
    repeat' split at h'
    all_goals first | contradiction | cases h'
  | fieldAddr t x i =>
    have h' : oFieldAddr t x i P = .wr f := h
    unfold oFieldAddr at h'
    repeat' split at h'
    all_goals first | contradiction | cases h'
  | field t x i =>
    have h' : oField t x i P = .wr f := h
    unfold oField at h'
    repeat' split at h'
    all_goals first | contradiction | cases h'
  | indexAddr t x i =>
    have h' : oIndexAddr t x i P = .wr f := h
    unfold oIndexAddr at h'
    repeat' split at h'
    all_goals first | contradiction | cases h'
  | index t x i =>
    have h' : oIndex t x i P = .wr f := h
    unfold oIndex at h'
    repeat' split at h'
    all_goals first | contradiction | cases h'
  | alloc e =>
    have h' : oAlloc e P = .wr f := h
    unfold oAlloc at h'
    repeat' split at h'
    all_goals first | contradiction | cases h'
  | box e x =>
    have h' : oBox e x P = .wr f := h
    unfold oBox at h'
    repeat' split at h'
    all_goals first | contradiction | cases h'
  | buildSlice t n ps =>
    have h' : oBuildSlice t n ps P = .wr f := h
    unfold oBuildSlice at h'
    repeat' split at h'
    all_goals first | contradiction | cases h'
  | makeSlice t l c =>
    have h' : oMakeSlice t l c P = .wr f := h
    unfold oMakeSlice at h'
    repeat' split at h'
    all_goals first | contradiction | cases h'
  | defer c =>
    have h' : oDefer c P = .wr f := h
    unfold oDefer at h'
    repeat' split at h'
    all_goals first | contradiction | cases h'
  | _ => cases h

end
end Go.Proofs.YtlkbahknmbgjmaaGreat.Ev
