/-
  The interpreter's operations that make a block.
  No conditions.
-/
import Derived.Test.YtlkbahknmbgjmaaGreatEg
import Derived.Laws.IdiomStrings
import Derived.Laws.AppendOwn
namespace Go.Proofs.YtlkbahknmbgjmaaGreat.Ev
open Go

/-! ### New blocks -/
def upd (μ : Mp) (id : Nat) (m : Lo) : Mp := fun b => if b = id then some m else μ b
theorem upd_same (μ : Mp) (id : Nat) (m : Lo) : upd μ id m id = some m := if_pos rfl
theorem upd_ne {μ : Mp} {id b : Nat} (m : Lo) (h : b ≠ id) : upd μ id m b = μ b := if_neg h
theorem le_upd {μ : Mp} {id : Nat} {m : Lo} (h : μ id = none) : μ.le (upd μ id m) := fun b n hb => by
  by_cases e : b = id
  · subst e; rw [h] at hb; cases hb
  · rw [upd_ne m e]; exact hb

theorem cell_of_block {w w' : World} {b : Nat} (h : w'.heap[b]? = w.heap[b]?) (o : Nat) : w'.cell? ⟨b, o, none⟩ = w.cell? ⟨b, o, none⟩ := by
  simp only [World.cell?, h]
theorem frozen_of_block {w w' : World} {b : Nat} (h : w'.heap[b]? = w.heap[b]?) (o : Nat) : w'.frozen? ⟨b, o, none⟩ = w.frozen? ⟨b, o, none⟩ := by
  simp only [World.frozen?, h]

theorem BR.keep {μ ν : Mp} {w w' : World} {k : Blk} {m : Lo} (r : BR μ w k m) (hle : μ.le ν) (h : w'.heap[m.blk]? = w.heap[m.blk]?) : BR ν w' k m where
  ok := r.ok
  cell i hi := by
    obtain ⟨v, h1, h2, h3⟩ := r.cell i hi
    exact ⟨v, by rw [cell_of_block h]; exact h1, h2.mono hle, h3⟩
  there i hi := by rw [cell_of_block h, frozen_of_block h]; exact r.there i hi
  gr := r.gr
  sb h0 o := by rw [frozen_of_block h]; exact r.sb h0 o

/-- w' is w and one block more. -/
structure New (w w' : World) (x : Obj) : Prop where
  heap : w'.heap = w.heap.push x
  os : w'.os = w.os
  tape : w'.tape = w.tape
  output : w'.output = w.output

theorem New.old {w w' : World} {x : Obj} (h : New w w' x) {b : Nat} (hb : b < w.heap.size) : w'.heap[b]? = w.heap[b]? := by
  rw [h.heap, Array.getElem?_push, if_neg (by omega)]
theorem New.size {w w' : World} {x : Obj} (h : New w w' x) : w'.heap.size = w.heap.size + 1 := by rw [h.heap]; simp

theorem BR.new {ν : Mp} {w w' : World} {arr : Array Value} {e : TypeId} {fz : Nat × Nat} {k : Blk} {ext : Nat} (hw : New w w' (.cells arr e fz))
    (hfz : fz = (0, 0) ∨ (k.sb = true ∧ fz = (arr.size, arr.size + 1))) (hok : CsOk k.size k.cs)
    (hc : ∀ i, i < k.size → ∃ v, arr[i]? = some v ∧ VR ν (Cs.get i k.cs) v ∧ v.oneCell' = true) (hsz : k.size + ext * k.es ≤ arr.size) (hgr : k.gr = false → ext = 0) :
    BR ν w' k ⟨w.heap.size, 0, ext⟩ := by
  have hb : w'.heap[w.heap.size]? = some (.cells arr e fz) := by rw [hw.heap]; simp
  have hcell : ∀ o, w'.cell? ⟨w.heap.size, o, none⟩ = arr[o]? := fun o => by simp [World.cell?, hb]
  have hfro : ∀ o, o < arr.size → w'.frozen? ⟨w.heap.size, o, none⟩ = false := fun o ho => by
    simp only [World.frozen?, hb]
    rcases hfz with rfl | ⟨_, rfl⟩
    · simp
    · simp; omega
  refine ⟨hok, fun i hi => ?_, fun i hi => ?_, hgr, fun h0 o => ?_⟩
  · obtain ⟨v, h1, h2⟩ := hc i hi
    exact ⟨v, by rw [hcell, Nat.zero_add]; exact h1, h2⟩
  · have hi : i < k.size + ext * k.es := hi
    have hlt : i < arr.size := by omega
    rw [hcell, Nat.zero_add]
    exact ⟨by simp [hlt], hfro i hlt⟩
  · simp only [World.frozen?, hb]
    rcases hfz with rfl | ⟨h1, _⟩
    · simp
    · rw [h0] at h1; cases h1

theorem Rel.add {μ : Mp} {h h' : Hp} {w w' : World} {x : Obj} (r : Rel μ h w) (hw : New w w' x) {id : Nat} {k : Blk} {m : Lo} (hid : μ id = none) (hlt : id < h'.next)
    (hget : h'.get id = .of k) (hother : ∀ b n, μ b = some n → h'.get b = h.get b) (h1 : h.next ≤ h'.next) (h2 : h'.next ≤ 65536) (h3 : ∀ b, h'.next ≤ b → b < 65536 → h'.get b = .no) (hblk : m.blk = w.heap.size) (hbr : BR (upd μ id m) w' k m) :
    Rel (upd μ id m) h' w' := by
  have hold : ∀ b n, upd μ id m b = some n → b ≠ id → μ b = some n := fun b n hb e => by rwa [upd_ne m e] at hb
  refine ⟨fun b n hb => ?_, fun b l n hl hb => ?_, fun b c l l' n n' hl hl' hb hc hne => ?_, h2, h3⟩
  · rw [hw.size]
    by_cases e : b = id
    · subst e; rw [upd_same] at hb; cases hb; exact ⟨hlt, by omega⟩
    · have := r.lt b n (hold b n hb e); omega
  · by_cases e : b = id
    · subst e; rw [upd_same] at hb; cases hb; rw [hget] at hl; cases hl; exact hbr
    · have hb' := hold b n hb e
      rw [hother b n hb'] at hl
      exact (r.br b l n hl hb').keep (le_upd hid) (hw.old (r.lt b n hb').2)
  · by_cases e : b = id
    · by_cases e' : c = id
      · exact absurd (e.trans e'.symm) hne
      · subst e; rw [upd_same] at hb; cases hb
        have := (r.lt c n' (hold c n' hc e')).2
        omega
    · by_cases e' : c = id
      · subst e'; rw [upd_same] at hc; cases hc
        have := (r.lt b n (hold b n hb e)).2
        omega
      · have hb' := hold b n hb e
        have hc' := hold c n' hc e'
        rw [hother b n hb'] at hl
        rw [hother c n' hc'] at hl'
        exact r.inj b c l l' n n' hl hl' hb' hc' hne

theorem get_push {h : Hp} {b : Nat} (k : Blk) (hb : b < 65536) (hn : h.next < 65536) :
    (⟨Nat.succ h.next, (puts Bo 8 h.next).put (.of k) h.t⟩ : Hp).get b = if b = h.next then .of k else h.get b := by
  show (gets Bo 8 b).get ((puts Bo 8 h.next).put (.of k) h.t) = _
  by_cases e : b = h.next
  · rw [if_pos e, e, gets_puts]
  · rw [if_neg e]; exact gets_puts_ne Bo 8 h.next b (.of k) h.t hn hb e
theorem get_set {h : Hp} {b c : Nat} (k : Bo) (hb : b < 65536) (hc : c < 65536) : (h.set c k).get b = if b = c then k else h.get b := by
  show (gets Bo 8 b).get ((puts Bo 8 c).put k h.t) = _
  by_cases e : b = c
  · rw [if_pos e, e, gets_puts]
  · rw [if_neg e]; exact gets_puts_ne Bo 8 c b k h.t hc hb e
theorem push_inv {h : Hp} {k : Blk} {q : Hp → Out} {out : Out} (e : h.push k q = out) (hn : out ≠ .no) : h.next < 65536 ∧ q ⟨Nat.succ h.next, (puts Bo 8 h.next).put (.of k) h.t⟩ = out := by
  obtain ⟨hb, e⟩ := bif_yes e hn
  exact ⟨Nat.le_of_ble_eq_true hb, e⟩

/-- A new block at the next number. -/
theorem Stp.push {μ : Mp} {h : Hp} {w w' : World} {x : Obj} (r : Rel μ h w) (hw : New w w' x) {k : Blk} {m : Lo} (hn : h.next < 65536) (hblk : m.blk = w.heap.size) (hbr : BR (upd μ h.next m) w' k m) :
    Stp μ h w (upd μ h.next m) ⟨Nat.succ h.next, (puts Bo 8 h.next).put (.of k) h.t⟩ w' := by
  have hid : μ h.next = none := by
    cases e : μ h.next with
    | none => rfl
    | some n => have := (r.lt _ n e).1; omega
  have hother : ∀ b, b < h.next → (⟨Nat.succ h.next, (puts Bo 8 h.next).put (.of k) h.t⟩ : Hp).get b = h.get b := fun b hb => by
    rw [get_push k (by omega) hn, if_neg (by omega)]
  exact {
    le := le_upd hid
    new := fun b n hb => by
      by_cases e : b = h.next
      · subst e; rw [upd_same] at hb; cases hb; exact .inr ⟨Nat.le_refl _, .inl (by omega)⟩
      · rw [upd_ne m e] at hb; exact .inl hb
    rel := r.add hw hid (Nat.lt_succ_self _) (by rw [get_push k hn hn, if_pos rfl]) (fun b n hb => hother b (r.lt b n hb).1) (Nat.le_succ _) hn (fun b hb hb' => by
      have hb : Nat.succ h.next ≤ b := hb
      rw [get_push k hb' hn, if_neg (by omega)]; exact r.fresh b (by omega) hb') hblk hbr
    next := Nat.le_succ _
    same := fun b hb _ => hother b hb
    live := fun b l n hl hb => ⟨l, by rw [← hother b (r.lt b n hb).1]; exact hl⟩
    foot := fun y hy _ => hw.old hy
    os := hw.os
    tape := hw.tape
    output := hw.output
    size := by rw [hw.size]; omega }

/-- An operation that makes a block. -/
def AlOk (P : Program) (op : Op) (f : Nat → F → (AV → Blk → Out) → Out) : Prop :=
  ∀ id fr q out, f id fr q = out → out ≠ .no → ∃ v k, q v k = out ∧ ∀ (μ : Mp) (w : World) (a : Act) (o : Oper), o.op = op → FR μ fr a.tmps → μ id = none →
    ∃ u w' m x, (execOp a.eval o).run P w = .ok (.value u) w' ∧ New w w' x ∧ m.blk = w.heap.size ∧ BR (upd μ id m) w' k m ∧ VR (upd μ id m) v u

section
variable {P : Program}

theorem New.alloc (w : World) (x : Obj) : New w (w.alloc x) x := ⟨rfl, rfl, rfl, rfl⟩
theorem New.drew (w : World) (x : Obj) : New w (w.drew.alloc x) x := ⟨rfl, rfl, rfl, rfl⟩

/-- A block of given cells. -/
theorem BR.cells {ν : Mp} {w w' : World} {e : TypeId} {es : Nat} {l : List AV} {vs : List Value} (hw : New w w' (.cells ⟨vs⟩ e (0, 0))) (h : VRs ν l vs) (h1 : ∀ v ∈ vs, v.oneCell' = true) :
    BR ν w' (mkBlk es false false l) ⟨w.heap.size, 0, 0⟩ := by
  obtain ⟨h2, h3⟩ := cells_ok es l
  have hl : (mkBlk es false false l).size = l.length := len_eq l
  refine BR.new hw (.inl rfl) (by rw [hl]; exact h2) (fun i hi => ?_) (by rw [hl, h.length]; simp) (fun _ => rfl)
  rw [hl] at hi
  obtain ⟨v, hv, hr⟩ := h.get (i := i) (x := l[i]) (by simp [hi])
  refine ⟨v, by simpa using hv, ?_, h1 v (List.mem_of_getElem? hv)⟩
  show VR ν (Cs.get i (Ev.cells es l)) v
  rw [h3 i hi, List.getElem?_eq_getElem hi]; exact hr

theorem oAlloc_ok (e : TypeId) {f} (h : oAlloc e P = .al f) : AlOk P (.alloc e) f := by
  unfold oAlloc at h
  cases hz : zcells P e with
  | none => rw [hz] at h; cases h
  | some z =>
    rw [hz] at h
    cases h
    obtain ⟨y, i, v, hy, hi, h0, hzr⟩ := zcells_ok hz
    intro id fr q out e' hn
    refine ⟨_, _, e', fun μ w a o ho r hid => ?_⟩
    have hv : VR (upd μ id ⟨w.heap.size, 0, 0⟩) (.ptr id 0) _ := .ptr (upd_same _ _ _)
    refine ⟨_, _, ⟨w.heap.size, 0, 0⟩, _, exec_v (by unfold execOp; rw [ho]) ?_, New.alloc w (.cells v.cells e), rfl, ?_, hv⟩
    · simp [Instr.alloc, zeroValue, typeInfo, hi.info, h0, newVar, newRow]
    · exact BR.cells (New.alloc w (.cells v.cells e)) (hzr _).1 (hzr μ).2

theorem oBox_ok (e : TypeId) (x : Operand) {f} (h : oBox e x P = .al f) : AlOk P (.box e x) f := by
  unfold oBox at h
  generalize hk : kd P e = y at h
  by_cases hno : y = .no
  · subst hno; cases h
  · have h' : (match aggK y with
      | true => OpC.al fun id fr q => ((opd x).of fr).agg? fun l => q (.ptr id 0) (mkBlk (siz P e) false false l)
      | false => .al fun id fr q => one? ((opd x).of fr) (q (.ptr id 0) (mkBlk (siz P e) false false [(opd x).of fr]))) = .al f := by
      cases y <;> first | exact h | exact absurd rfl hno
    cases ha : aggK y with
    | true =>
      rw [ha] at h'
      cases h'
      intro id fr q out e' hn
      obtain ⟨l, hl, e1⟩ := agg?_inv e' hn
      refine ⟨_, _, e1, fun μ w a o ho r hid => ?_⟩
      have hc := opd_rel r x
      rw [hl] at hc
      obtain ⟨vs, hx, hvs, h1⟩ := agg_inv hc
      have hv : VR (upd μ id ⟨w.heap.size, 0, 0⟩) (.ptr id 0) _ := .ptr (upd_same _ _ _)
      refine ⟨_, _, ⟨w.heap.size, 0, 0⟩, _, exec_v (by unfold execOp; rw [ho]) ?_, New.alloc w (.cells ⟨vs⟩ e), rfl, ?_, hv⟩
      · rw [hx]; simp [Instr.box, newVar, newRow, Value.cells]
      · exact BR.cells (New.alloc w (.cells ⟨vs⟩ e)) (hvs.mono (le_upd hid)) h1
    | false =>
      rw [ha] at h'
      cases h'
      intro id fr q out e' hn
      obtain ⟨e1, h1⟩ := one?_inv e' hn
      refine ⟨_, _, e1, fun μ w a o ho r hid => ?_⟩
      have hc := opd_rel r x
      have hone := h1 hc
      have hcells : (a.eval x).cells = ⟨[a.eval x]⟩ := by
        generalize a.eval x = z at hone
        cases z <;> first | rfl | cases hone
      have hv : VR (upd μ id ⟨w.heap.size, 0, 0⟩) (.ptr id 0) _ := .ptr (upd_same _ _ _)
      refine ⟨_, _, ⟨w.heap.size, 0, 0⟩, _, exec_v (by unfold execOp; rw [ho]) ?_, New.alloc w (.cells ⟨[a.eval x]⟩ e), rfl, ?_, hv⟩
      · simp [Instr.box, newVar, newRow, hcells]
      · exact BR.cells (New.alloc w (.cells ⟨[a.eval x]⟩ e)) (.cons (hc.mono (le_upd hid)) .nil) (fun v hv => by
          cases hv with
          | head => exact hone
          | tail _ h => cases h)

/-! ### Rows of zero values -/
theorem flat_get {α : Type} (z : List α) : ∀ (n i : Nat), i < n * z.length → (List.replicate n z).flatten[i]? = z[i % z.length]?
  | 0, i, h => by omega
  | n + 1, i, h => by
    rw [List.replicate_succ, List.flatten_cons, List.getElem?_append]
    by_cases hi : i < z.length
    · rw [if_pos hi, Nat.mod_eq_of_lt hi]
    · rw [if_neg hi, flat_get z n (i - z.length) (by rw [Nat.succ_mul] at h; omega)]
      congr 1
      conv => rhs; rw [show i = (i - z.length) + z.length by omega, Nat.add_mod_right]
theorem flat_length {α : Type} (z : List α) (n : Nat) : (List.replicate n z).flatten.length = n * z.length := by
  simp [List.length_flatten]

/-- The model's row of zero values. -/
theorem zero_row (z : Array Value) (n m : Nat) (hm : m = n * z.size) (hz : 0 < z.size) : ((Array.range m).map (z[· % z.size]!)).toList = (List.replicate n z.toList).flatten := by
  subst hm
  apply List.ext_getElem?
  intro i
  by_cases hi : i < n * z.size
  · rw [flat_get z.toList n i (by simpa using hi)]
    have h1 : i % z.size < z.size := Nat.mod_lt _ hz
    simp [hi, h1]
  · rw [List.getElem?_eq_none (by simpa using hi), List.getElem?_eq_none (by rw [flat_length]; simpa using hi)]

theorem VRs.flat {μ : Mp} {z : List AV} {zs : List Value} (h : VRs μ z zs) : ∀ n, VRs μ (List.replicate n z).flatten (List.replicate n zs).flatten
  | 0 => .nil
  | n + 1 => by
    rw [List.replicate_succ, List.replicate_succ, List.flatten_cons, List.flatten_cons]
    exact h.app (VRs.flat h n)
theorem one_flat {zs : List Value} (h : ∀ v ∈ zs, v.oneCell' = true) (n : Nat) : ∀ v ∈ (List.replicate n zs).flatten, v.oneCell' = true := fun v hv => by
  obtain ⟨l, hl, hv⟩ := List.mem_flatten.1 hv
  rw [(List.mem_replicate.1 hl).2] at hv
  exact h v hv

theorem zeroValue_run {t : TypeId} {i : TypeInfo} {v : Value} (hi : P.info? t = some i) (h0 : i.zero = some v) (w : World) : (zeroValue t).run P w = .ok v w := by
  simp [zeroValue, typeInfo, hi, h0]

theorem zelem_ok {e : TypeId} {m : Nat} {z : List AV} (h : zelem P e = some (m, z)) : ∃ i v, m ≠ 0 ∧ (∀ w : World, (sizeOf e).run P w = .ok m w) ∧ P.info? e = some i ∧ i.size = m ∧ i.bytes = byt P e ∧ i.zero = some v ∧ v.cells.size = m ∧ z.length = m ∧
    ∀ μ : Mp, VRs μ z v.cells.toList ∧ ∀ c ∈ v.cells.toList, c.oneCell' = true := by
  unfold zelem at h
  by_cases hs : siz P e = 0
  · rw [hs] at h; cases h
  · cases hz : zcells P e with
    | none => rw [hz] at h; repeat' split at h
              all_goals first | contradiction | cases h
    | some z' =>
      rw [hz] at h
      have h' : (match Nat.beq (len z') (siz P e) with | true => some (siz P e, z') | false => none) = some (m, z) := by
        cases hsz : siz P e with
        | zero => exact absurd hsz hs
        | succ m => rw [hsz] at h; exact h
      cases hb : Nat.beq (len z') (siz P e) with
      | false => rw [hb] at h'; cases h'
      | true =>
        rw [hb] at h'
        cases h'
        have hb := Nat.eq_of_beq_eq_true hb
        rw [len_eq] at hb
        obtain ⟨y, i, v, hy, hi, h0, hzr⟩ := zcells_ok hz
        refine ⟨i, v, hs, siz_run' hs, hi.info, by rw [siz_of hy]; exact hi.siz, by rw [byt_of hy]; exact hi.byt, h0, ?_, hb, hzr⟩
        have := (hzr fun _ => none).1.length
        rw [hb] at this
        exact this.symm

theorem oBuildSlice_ok (t : TypeId) (n : Nat) (ps : Array (Nat × Operand)) {f} (h : oBuildSlice t n ps P = .al f) : AlOk P (.buildSlice t n ps) f := by
  unfold oBuildSlice at h
  cases hk : kd P t with
  | sl e =>
    simp only [hk] at h
    cases hz : zelem P e with
    | none => rw [hz] at h; cases h
    | some p =>
      obtain ⟨m, z⟩ := p
      simp only [hz] at h
      cases hb : Nat.ble (n * m) 65536 with
      | false => simp only [hb] at h; cases h
      | true =>
        simp only [hb] at h
        cases h
        obtain ⟨i, v, hm, hsr, hi, _, _, h0, hvs, _, hzr⟩ := zelem_ok hz
        have hb := Nat.le_of_ble_eq_true hb
        intro id fr q out e' hn
        obtain ⟨l, e1, hl, H'⟩ := fillF_ok (pm := fun i => some (i * m, m)) (fun _ _ h => h) e' hn
        refine ⟨_, _, e1, fun μ w a o ho r hid => ?_⟩
        obtain ⟨h1, h2⟩ := hzr μ
        obtain ⟨ds, h3, h4, h5⟩ := H' μ a _ r (h1.flat n) (one_flat h2 n)
        have hv : VR (upd μ id ⟨w.heap.size, 0, 0⟩) (.slc id 0 n n true) _ := .slc (upd_same _ _ _)
        refine ⟨_, _, ⟨w.heap.size, 0, 0⟩, _, exec_v (by unfold execOp; rw [ho]) ?_, New.alloc w (.cells ⟨ds⟩ e), rfl, BR.cells (New.alloc w (.cells ⟨ds⟩ e)) (h4.mono (le_upd hid)) h5, hv⟩
        have hps : (ps.map fun (i, x) => (i, a.eval x)).toList = ps.toList.map fun (i, x) => (i, a.eval x) := by simp
        have hlim : ¬ n * m > 2 ^ 24 := by omega
        have hrow : ((Array.range (n * m)).map ((if n * m = 0 then #[] else v.cells)[· % (if n * m = 0 then #[] else v.cells).size]!)) = ⟨(List.replicate n v.cells.toList).flatten⟩ := by
          apply Array.ext'
          by_cases hn0 : n = 0
          · subst hn0; simp
          · have : ¬ n * m = 0 := fun h => by rcases Nat.mul_eq_zero.1 h with h | h <;> omega
            simp only [this, if_false]
            exact zero_row v.cells n (n * m) (by rw [hvs]) (by omega)
        have h3' : Instr.fill (fun i => some (i * m, m)) ⟨(List.replicate n v.cells.toList).flatten⟩ (List.map (fun x => (x.1, a.eval x.2)) ps.toList) = some ⟨ds⟩ := h3
        unfold Instr.buildSlice
        simp only [Sem.run_bind, run_underlying (und_sl hk), Result.andThen_ok, hsr, hlim, if_false, hps]
        by_cases hn0 : n * m = 0
        · simp only [if_pos hn0] at hrow
          rw [if_pos hn0]
          simp only [Sem.run_bind, Sem.run_pure, Result.andThen_ok]
          rw [hrow, h3']
          simp [newRow]
        · simp only [if_neg hn0] at hrow
          rw [if_neg hn0]
          simp only [Sem.run_bind, zeroValue_run hi h0, Sem.run_pure, Result.andThen_ok]
          rw [hrow, h3']
          simp [newRow]
  | _ => simp only [hk] at h; cases h

theorem same_ok {z : List AV} {v : AV} (h : same z = some v) : ∀ x ∈ z, x = v := by
  unfold same at h
  split at h
  · cases h
    intro x hx
    cases hx with
    | head => rfl
    | tail _ h => cases h
  · rename_i k l _
    split at h
    · rename_i hall
      cases h
      intro x hx
      cases hx with
      | head => rfl
      | tail _ hx =>
        have := List.all_eq_true.1 hall x hx
        split at this
        · rw [ikEq_eq this]
        · cases this
    · cases h
  · cases h

theorem oMakeSlice_ok (t : TypeId) (l c : Operand) {f} (h : oMakeSlice t l c P = .al f) : AlOk P (.makeSlice t l c) f := by
  unfold oMakeSlice at h
  cases hk : kd P t with
  | sl e =>
    simp only [hk] at h
    cases hz : zelem P e with
    | none => rw [hz] at h; cases h
    | some p =>
      obtain ⟨m, z⟩ := p
      simp only [hz] at h
      cases hs : same z with
      | none => simp only [hs] at h; cases h
      | some v0 =>
        simp only [hs] at h
        cases h
        obtain ⟨i, v, hm, hsr, hi, _, hby, h0, hvs, hzl, hzr⟩ := zelem_ok hz
        intro id fr q out e' hn
        obtain ⟨k1, l', hl', e1⟩ := nat?_inv e' hn
        obtain ⟨k2, c', hc', e2⟩ := nat?_inv e1 hn
        obtain ⟨hb, e3⟩ := bif_yes e2 hn
        simp only [Bool.and_eq_true] at hb
        have hlc := Nat.le_of_ble_eq_true hb.1.1
        have hc1 := Nat.le_of_ble_eq_true hb.1.2
        have hby2 := Nat.le_of_ble_eq_true hb.2
        cases hbl : blank (Nat.mul c' m) m v0 with
        | none => rw [hbl] at e3; exact absurd e3.symm hn
        | some cs =>
          rw [hbl] at e3
          obtain ⟨hok, hget⟩ := blank_ok hbl
          refine ⟨_, _, e3, fun μ w a o ho r hid => ?_⟩
          obtain ⟨h1, h2⟩ := hzr (upd μ id ⟨w.heap.size, 0, 0⟩)
          have hv : VR (upd μ id ⟨w.heap.size, 0, 0⟩) (.slc id 0 l' c' true) _ := .slc (upd_same _ _ _)
          have hrow : ((Array.range (c' * m)).map ((if c' * m = 0 then #[] else v.cells)[· % (if c' * m = 0 then #[] else v.cells).size]!)) = ⟨(List.replicate c' v.cells.toList).flatten⟩ := by
            apply Array.ext'
            by_cases hn0 : c' = 0
            · subst hn0; simp
            · have : ¬ c' * m = 0 := fun h => by rcases Nat.mul_eq_zero.1 h with h | h <;> omega
              simp only [this, if_false]
              exact zero_row v.cells c' (c' * m) (by rw [hvs]) (by omega)
          have w1 : IntKind.i64.wrap (l' : Int) = l' := wrap_small .i64 l' (by simp only [half]; omega)
          have w2 : IntKind.i64.wrap (c' : Int) = c' := wrap_small .i64 c' (by simp only [half]; omega)
          have hti : (typeInfo e).run P w = .ok i w := by simp [typeInfo, hi]
          have hbig : ¬ ((i.bytes : Int) * (c' : Int) > 2 ^ 48) := by
            have : i.bytes * c' ≤ 65536 * 1048576 := Nat.mul_le_mul (by omega) hc1
            have h3 : ((i.bytes * c' : Nat) : Int) = (i.bytes : Int) * (c' : Int) := by simp
            omega
          refine ⟨_, _, ⟨w.heap.size, 0, 0⟩, _, exec_v (by unfold execOp; rw [ho]) ?_, New.alloc w (.cells ⟨(List.replicate c' v.cells.toList).flatten⟩ e), rfl, ?_, hv⟩
          · rw [nat_rel r hl', nat_rel r hc']
            unfold Instr.makeSlice
            have hcond : (decide ((c' : Int) < 0) || decide ((i.bytes : Int) * (c' : Int) > 2 ^ 48) || decide ((l' : Int) < 0) || decide ((l' : Int) > (c' : Int))) = false := by
              simp only [Bool.or_eq_false_iff, decide_eq_false_iff_not]
              omega
            simp only [Sem.run_bind, run_underlying (und_sl hk), Result.andThen_ok, asInt, asIntOf, Sem.run_pure, hti, w1, w2, hcond, Bool.false_eq_true, if_false, run_askRoom, Int.toNat_natCast, hsr]
            by_cases hn0 : c' * m = 0
            · simp only [if_pos hn0] at hrow
              rw [if_pos hn0]
              simp only [Sem.run_bind, Sem.run_pure, Result.andThen_ok]
              rw [hrow]
              simp [newRow]
            · simp only [if_neg hn0] at hrow
              rw [if_neg hn0]
              simp only [Sem.run_bind, zeroValue_run hi h0, Sem.run_pure, Result.andThen_ok]
              rw [hrow]
              simp [newRow]
          · refine BR.new (New.alloc w (.cells ⟨(List.replicate c' v.cells.toList).flatten⟩ e)) (.inl rfl) hok (fun j hj => ?_) ?_ (fun _ => rfl)
            · have hj : j < c' * m := hj
              have hlen : v.cells.toList.length = m := by simpa using hvs
              have hjm : j % m < m := Nat.mod_lt _ (by omega)
              have e4 : (List.replicate c' v.cells.toList).flatten[j]? = v.cells.toList[j % m]? := by
                rw [flat_get _ _ _ (by rw [hlen]; exact hj), hlen]
              obtain ⟨u, hu, hr⟩ := h1.get (i := j % m) (x := z[j % m]'(by omega)) (by simp [hzl, hjm])
              rw [same_ok hs _ (List.getElem_mem _)] at hr
              refine ⟨u, by simpa using e4.trans hu, ?_, h2 u (List.mem_of_getElem? hu)⟩
              show VR _ (Cs.get j cs) u
              rw [hget j hj]; exact hr
            · show c' * m + 0 * m ≤ _
              simp [List.length_flatten, hvs]
  | _ => simp only [hk] at h; cases h

theorem oConvA_ok (s t : TypeId) (x : Operand) {f} (h : oConv s t x P = .al f) : AlOk P (.convert s t x) f := by
  unfold oConv at h
  cases hs : kd P s with
  | s =>
    cases hd : kd P t with
    | sl e =>
      simp only [hs, hd] at h
      cases he : kd P e with
      | i k =>
        simp only [he] at h
        cases k with
        | u8 =>
          have h' : OpC.al (fun id fr q => ((opd x).of fr).str? fun s => q (.slc id 0 (sLen s) (sLen s) false) (mkBlk 1 true true (s.map byteAV))) = .al f := h
          cases h'
          intro id fr q out e' hn
          obtain ⟨l, hl, e1⟩ := str?_inv e' hn
          refine ⟨_, _, e1, fun μ w a o ho r hid => ?_⟩
          have hc := opd_rel r x
          rw [hl] at hc
          obtain ⟨b, hx, hb⟩ := str_inv hc
          have hsz : b.size = l.length := str_size hb
          have hge := grownCap_ge w b.size 0 e
          have hv : VR (upd μ id ⟨w.heap.size, 0, grownCap w b.size 0 e - b.size⟩) (.slc id 0 (sLen l) (sLen l) false) _ := .slc (upd_same _ _ _)
          have hcap : sLen l + (grownCap w b.size 0 e - b.size) = grownCap w b.size 0 e := by rw [sLen_eq]; omega
          refine ⟨_, _, ⟨w.heap.size, 0, grownCap w b.size 0 e - b.size⟩, _, exec_v (by unfold execOp; rw [ho]) ?_, New.drew w (.cells (bytesRow b (grownCap w b.size 0 e)) e ((bytesRow b (grownCap w b.size 0 e)).size, (bytesRow b (grownCap w b.size 0 e)).size + 1)), rfl, ?_, hv⟩
          · rw [hx, run_bytes_of_string w s t e b (und_s hs) (und_sl hd) (und_i he)]
            simp only [Nat.add_zero, Bool.false_eq_true, if_false, hcap]
            rw [sLen_eq, ← hsz]
          · obtain ⟨h2, h3⟩ := cells_ok 1 (l.map byteAV)
            have hlen : (mkBlk 1 true true (l.map byteAV)).size = l.length := by show len _ = _; rw [len_eq]; simp
            have hrow : (bytesRow b (grownCap w b.size 0 e)).size = grownCap w b.size 0 e := by
              unfold bytesRow
              have : b.data.size = b.size := rfl
              simp [this]; omega
            refine BR.new (New.drew w _) (.inr ⟨rfl, rfl⟩) (by rw [hlen]; show CsOk l.length (Ev.cells 1 (l.map byteAV)); simpa using h2) (fun i hi => ?_) ?_ (fun h => by cases h)
            · rw [hlen] at hi
              have hd : i < b.data.size := by show i < b.size; omega
              refine ⟨.int .u8 (b.data[i].toNat : Int), ?_, ?_, rfl⟩
              · unfold bytesRow
                rw [Array.getElem?_append_left (by simpa using hd), Array.getElem?_map, Array.getElem?_eq_getElem hd]
                rfl
              · show VR _ (Cs.get i (Ev.cells 1 (l.map byteAV))) _
                rw [h3 i (by simpa using hi), List.getElem?_map]
                subst hb
                have : (List.map UInt8.toNat b.data.toList)[i]? = some b.data[i].toNat := by rw [List.getElem?_map, Array.getElem?_toList, Array.getElem?_eq_getElem hd]; rfl
                rw [this]
                exact .int _ _
            · rw [hlen, hrow]
              show l.length + (grownCap w b.size 0 e - b.size) * 1 ≤ _
              omega
        | _ => cases h
      | _ => simp only [he] at h; cases h
    | _ => simp only [hs, hd] at h; cases h
  | i k => cases hd : kd P t <;> simp only [hs, hd] at h <;> cases h
  | sl e =>
    cases hd : kd P t with
    | s =>
      simp only [hs, hd] at h
      repeat' split at h
      all_goals first | contradiction | cases h
    | _ => simp only [hs, hd] at h; cases h
  | _ => simp only [hs] at h; cases h

/-- An operation that makes a block, in the interpreter, is one in the model. -/
theorem opC_al {o : Op} {f} (h : opC o P = .al f) : AlOk P o f := by
  cases o with
  | alloc e => exact oAlloc_ok e h
  | box e x => exact oBox_ok e x h
  | buildSlice t n ps => exact oBuildSlice_ok t n ps h
  | makeSlice t l c => exact oMakeSlice_ok t l c h
  | convert s t x => exact oConvA_ok s t x h
  | build t ps =>
    have h' : oBuild t ps P = .al f := h
    unfold oBuild at h'
    repeat' split at h'
    all_goals first | contradiction | cases h'
  | load t x =>
    have h' : oLoad t x P = .al f := h
    unfold oLoad at h'
    repeat' split at h'
    all_goals first | contradiction | cases h'
  | store t x y =>
    have h' : oStore t x y P = .al f := h
    unfold oStore at h'
    repeat' split at h'
    all_goals first | contradiction | cases h'
  | binOp op t x y u =>
    have h' : oBin op t x y u P = .al f := h
    unfold oBin eqB eqP eqN at h'
    repeat' split at h'
    all_goals first | contradiction | cases h'
  | unOp op t x =>
    have h' : oUn op t x P = .al f := h
    unfold oUn at h'
    repeat' split at h'
    all_goals first | contradiction | cases h'
  | makeFunc g x y =>
    have h' : oMakeFunc g x y P = .al f := h
    unfold oMakeFunc at h'
    repeat' split at h'
    all_goals first | contradiction | cases h'
  | slice t x lo hi mx =>
    have h' : oSlice t x lo hi mx P = .al f := h
    unfold oSlice at h'
    repeat' split at h'
    all_goals first | contradiction | cases h'
  | fieldAddr t x i =>
    have h' : oFieldAddr t x i P = .al f := h
    unfold oFieldAddr at h'
    repeat' split at h'
    all_goals first | contradiction | cases h'
  | field t x i =>
    have h' : oField t x i P = .al f := h
    unfold oField at h'
    repeat' split at h'
    all_goals first | contradiction | cases h'
  | indexAddr t x i =>
    have h' : oIndexAddr t x i P = .al f := h
    unfold oIndexAddr at h'
    repeat' split at h'
    all_goals first | contradiction | cases h'
  | index t x i =>
    have h' : oIndex t x i P = .al f := h
    unfold oIndex at h'
    repeat' split at h'
    all_goals first | contradiction | cases h'
  | call c =>
    have h' : oCall c P = .al f := h
    unfold oCall oBuiltin at h'
    repeat' split at h'
    all_goals first | contradiction | cases h'
  | defer c =>
    have h' : oDefer c P = .al f := h
    unfold oDefer at h'
    repeat' split at h'
    all_goals first | contradiction | cases h'
  | _ => cases h

end
end Go.Proofs.YtlkbahknmbgjmaaGreat.Ev
