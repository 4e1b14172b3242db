/-
  The interpreter's append, copy, clear.
  No conditions.
-/
import Derived.Test.YtlkbahknmbgjmaaGreatEi
namespace Go.Proofs.YtlkbahknmbgjmaaGreat.Ev
open Go

section
variable {P : Program}

/-! ### What is appended or copied -/
/-- The first r elements of X are these cells. -/
structure Have (P : Program) (n : Nat) (w : World) (X : Value) (r : Nat) (news : List Value) : Prop where
  len : news.length = r * n
  one : ∀ v ∈ news, v.oneCell' = true
  cells : (Builtin.firstCells n r X).run P w = .ok ⟨news⟩ w
  cellsD : (Builtin.firstCells n r X).run P w.drew = .ok ⟨news⟩ w.drew

theorem firstCells_slice (w : World) (n r : Nat) (b o len cap : Nat) (vs : List Value) (hr : w.rangeAt b o vs) (hl : vs.length = r * n) : (Builtin.firstCells n r (.slice (some ⟨b, o, none⟩) len cap)).run P w = .ok ⟨vs⟩ w :=
  run_firstCells_some w n r ⟨b, o, none⟩ len cap vs hl (fun j u hu => by rw [Addr.add_mid]; exact hr j u hu)

theorem firstCells_str (w : World) (b : ByteArray) (r : Nat) (hr : r ≤ b.size) : (Builtin.firstCells 1 r (.string b)).run P w = .ok ⟨(b.data.toList.take r).map fun c => Value.int .u8 (c.toNat : Int)⟩ w := by
  unfold Builtin.firstCells
  simp only [Sem.run_pure]
  congr 1
  apply Array.ext'
  obtain ⟨⟨bs⟩⟩ := b
  have := ByteArray.extract_mk bs 0 r
  rw [show (ByteArray.mk ⟨bs⟩) = ByteArray.mk bs.toArray from rfl, this]
  simp

theorem src_ok {n : Nat} {h : Hp} {x : AV} {mo : Option Nat} {q : Nat → List AV → Out} {out : Out} (e : src n h x mo q = out) (hn : out ≠ .no) :
    ∃ r cs, q r cs = out ∧ (∀ l, mo = some l → r ≤ l) ∧ ∀ (μ : Mp) (w : World) (X : Value), Rel μ h w → VR μ x X →
      ∃ L news, (∀ u : World, (Builtin.lenOf X).run P u = .ok L u) ∧ r = upTo mo L ∧ VRs μ cs news ∧ Have P n w X r news := by
  cases x with
  | nils =>
    refine ⟨0, [], e, fun _ _ => Nat.zero_le _, fun μ w X _ hX => ⟨0, [], ?_, ?_, .nil, ?_⟩⟩
    · rw [nils_inv hX]; intro u; rfl
    · cases mo <;> simp [upTo]
    · rw [nils_inv hX]; exact ⟨by simp, fun _ h => (by cases h), rfl, rfl⟩
  | emp =>
    refine ⟨0, [], e, fun _ _ => Nat.zero_le _, fun μ w X _ hX => ?_⟩
    cases hX with
    | emp a c =>
      refine ⟨0, [], fun u => rfl, by cases mo <;> simp [upTo], .nil, by simp, fun _ h => (by cases h), ?_, ?_⟩ <;> simp [Builtin.firstCells, loadCells, loadCellsFrom]
  | slc b o len cap ex =>
    have e : bif? (q 0 []) (h.row? b o (Nat.mul (upTo mo len) n) fun l => q (upTo mo len) l) (Nat.beq (upTo mo len) 0) = out := e
    generalize hr : upTo mo len = r at e
    have hrl : ∀ l, mo = some l → r ≤ l := fun l hl => by subst hl; subst hr; exact Nat.min_le_right _ _
    rcases bif_or e with ⟨h0, e1⟩ | ⟨h0, e1⟩
    · have h0 : r = 0 := Nat.eq_of_beq_eq_true h0
      subst h0
      refine ⟨0, [], e1, hrl, fun μ w X _ hX => ?_⟩
      obtain ⟨m, hm, rfl⟩ := slc_inv hX
      refine ⟨len, [], fun u => rfl, hr.symm, .nil, by simp, fun _ h => (by cases h), ?_, ?_⟩ <;> simp [Builtin.firstCells, loadCells, loadCellsFrom]
    · obtain ⟨k, hk, hle, e2⟩ := row?_inv e1 hn
      refine ⟨r, _, e2, hrl, fun μ w X hrel hX => ?_⟩
      · obtain ⟨m, hm, rfl⟩ := slc_inv hX
        obtain ⟨vs, h1, h2, h3, h4⟩ := row_cells (hrel.br b k m hk hm) o (r * n) hle
        exact ⟨len, vs, fun u => rfl, hr.symm, h1, h4, h3, firstCells_slice w n r _ _ len _ vs h2 h4, firstCells_slice w.drew n r _ _ len _ vs h2 h4⟩
  | str s =>
    by_cases h1 : n = 1
    · subst h1
      have e : q (upTo mo (sLen s)) ((s.take (upTo mo (sLen s))).map byteAV) = out := e
      rw [sLen_eq] at e
      generalize hr : upTo mo s.length = r at e
      have hrl : ∀ l, mo = some l → r ≤ l := fun l hl => by subst hl; subst hr; exact Nat.min_le_right _ _
      have hrs : r ≤ s.length := by
        subst hr
        cases mo with
        | none => exact Nat.le_refl _
        | some l => exact Nat.min_le_left _ _
      refine ⟨r, _, e, hrl, fun μ w X _ hX => ?_⟩
      obtain ⟨b, rfl, hb⟩ := str_inv hX
      have hsz := str_size hb
      refine ⟨b.size, (b.data.toList.take r).map fun c => Value.int .u8 (c.toNat : Int), fun u => rfl, by rw [hsz]; exact hr.symm, ?_, ?_, ?_, firstCells_str w b r (by omega), firstCells_str w.drew b r (by omega)⟩
      · subst hb
        refine VRs.of_get (by simp) fun i x v hx hv => ?_
        rw [← List.map_take, List.map_map, List.getElem?_map] at hx
        rw [List.getElem?_map] at hv
        cases hg : (b.data.toList.take r)[i]? with
        | none => rw [hg] at hx; cases hx
        | some c => rw [hg] at hx hv; cases hx; cases hv; exact .int _ _
      · have : b.data.toList.length = b.size := by rw [Array.length_toList]; rfl
        simp; omega
      · intro v hv
        obtain ⟨c, _, rfl⟩ := List.mem_map.1 hv
        rfl
    · have : src n h (.str s) mo q = .no := by
        cases n with
        | zero => rfl
        | succ n =>
          cases n with
          | zero => exact absurd rfl h1
          | succ _ => rfl
      rw [this] at e; exact absurd e.symm hn
  | _ => exact absurd e.symm hn

/-! ### A row that is let go -/
theorem get_kill {h : Hp} {b x : Nat} (hb : b < 65536) (hx : x < 65536) : (h.set b .no).get x = if x = b then .no else h.get x := get_set _ hx hb

theorem Stp.kill {μ : Mp} {h : Hp} {w : World} (r : Rel μ h w) {b : Nat} {m : Lo} (hm : μ b = some m) : Stp μ h w μ (h.set b .no) w := by
  have hnx := r.nx
  have hb := (r.lt b m hm).1
  have hg : ∀ x, x < h.next → (h.set b .no).get x = if x = b then .no else h.get x := fun x hx => get_kill (by omega) (by omega)
  have old : ∀ x k n, (h.set b .no).get x = .of k → μ x = some n → h.get x = .of k := fun x k n hk hx => by
    rw [hg x (r.lt x n hx).1] at hk
    split at hk
    · cases hk
    · exact hk
  exact {
    le := μ.le_refl
    new := fun _ _ h => .inl h
    rel := ⟨r.lt, fun x k n hk hx => r.br x k n (old x k n hk hx) hx, fun x y k l n p hk hl hx hy hne => r.inj x y k l n p (old x k n hk hx) (old y l p hl hy) hx hy hne, hnx, fun x hx hx' => by
      have hx : h.next ≤ x := hx
      rw [get_kill (by omega) hx', if_neg (by omega)]; exact r.fresh x hx hx'⟩
    next := Nat.le_refl _
    same := fun x hx hn => by rw [hg x hx, if_neg (fun e => by subst e; rw [hm] at hn; cases hn)]
    live := fun x k n hk hx => ⟨k, old x k n hk hx⟩
    foot := fun _ _ _ => rfl
    os := rfl
    tape := rfl
    output := rfl
    size := Nat.le_refl _ }

/-- The row b lives on as a new one: in its place, with vs behind it. -/
theorem Stp.reuse {μ : Mp} {h : Hp} {w : World} (r : Rel μ h w) {b : Nat} {k : Blk} {m : Lo} (hk : h.get b = .of k) (hm : μ b = some m) (hn : h.next < 65536) {o : Nat} {vs : List Value} {g : Blk} {p : Lo} (hp : p.blk = m.blk)
    (hbr : BR (upd μ h.next p) (w.setCells m.blk o vs) g p) :
    Stp μ h w (upd μ h.next p) ⟨Nat.succ h.next, (puts Bo 8 h.next).put (.of g) (h.set b .no).t⟩ (w.setCells m.blk o vs) := by
  obtain ⟨o1, o2, o3⟩ := other_setCells m.blk vs o w
  have hid : μ h.next = none := by
    cases e : μ h.next with
    | none => rfl
    | some n => have := (r.lt _ n e).1; omega
  have hb := (r.lt b m hm).1
  have hg : ∀ x, x < 65536 → (⟨Nat.succ h.next, (puts Bo 8 h.next).put (.of g) (h.set b .no).t⟩ : Hp).get x = if x = h.next then .of g else if x = b then .no else h.get x := fun x hx => by
    have := get_push (h := h.set b .no) g hx hn
    rw [get_kill (by omega) hx] at this
    exact this
  have hold : ∀ x n, upd μ h.next p x = some n → x ≠ h.next → μ x = some n := fun x n hx e => by rwa [upd_ne p e] at hx
  have old : ∀ x l n, (⟨Nat.succ h.next, (puts Bo 8 h.next).put (.of g) (h.set b .no).t⟩ : Hp).get x = .of l → μ x = some n → x ≠ b ∧ h.get x = .of l := fun x l n hl hx => by
    have hlt := (r.lt x n hx).1
    rw [hg x (by omega), if_neg (by omega)] at hl
    split at hl
    · cases hl
    · rename_i e; exact ⟨e, hl⟩
  exact {
    le := le_upd hid
    new := fun x n hx => by
      by_cases e : x = h.next
      · subst e; rw [upd_same] at hx; cases hx; exact .inr ⟨Nat.le_refl _, .inr ⟨b, k, m, hk, hm, hp.symm⟩⟩
      · exact .inl (hold x n hx e)
    rel := by
      refine ⟨fun x n hx => ?_, fun x l n hl hx => ?_, fun x y l1 l2 n1 n2 h1 h2 hx hy hne => ?_, hn, fun x hx hx' => ?_⟩
      · rw [size_setCells]
        by_cases e : x = h.next
        · subst e; rw [upd_same] at hx; cases hx
          have := (r.lt b m hm).2
          exact ⟨Nat.lt_succ_self _, by omega⟩
        · have := r.lt x n (hold x n hx e)
          exact ⟨Nat.lt_succ_of_lt this.1, this.2⟩
      · by_cases e : x = h.next
        · subst e; rw [upd_same] at hx; cases hx
          rw [hg _ hn, if_pos rfl] at hl
          cases hl; exact hbr
        · have hx' := hold x n hx e
          obtain ⟨e2, hl'⟩ := old x l n hl hx'
          exact (r.br x l n hl' hx').keep (le_upd hid) (heap_setCells _ _ _ _ _ (r.inj x b l k n m hl' hk hx' hm e2))
      · by_cases e : x = h.next
        · by_cases e' : y = h.next
          · exact absurd (e.trans e'.symm) hne
          · subst e; rw [upd_same] at hx; cases hx
            have hy' := hold y n2 hy e'
            obtain ⟨e2, hl'⟩ := old y l2 n2 h2 hy'
            rw [hp]; exact (r.inj y b l2 k n2 m hl' hk hy' hm e2).symm
        · have hx' := hold x n1 hx e
          obtain ⟨e2, hl'⟩ := old x l1 n1 h1 hx'
          by_cases e' : y = h.next
          · subst e'; rw [upd_same] at hy; cases hy
            rw [hp]; exact r.inj x b l1 k n1 m hl' hk hx' hm e2
          · have hy' := hold y n2 hy e'
            obtain ⟨e3, hl''⟩ := old y l2 n2 h2 hy'
            exact r.inj x y l1 l2 n1 n2 hl' hl'' hx' hy' hne
      · have hx : Nat.succ h.next ≤ x := hx
        rw [hg x hx', if_neg (by omega), if_neg (by omega)]; exact r.fresh x (by omega) hx'
    next := Nat.le_succ _
    same := fun x hx hx0 => by
      rw [hg x (by have := r.nx; omega), if_neg (by omega), if_neg (fun e => by subst e; rw [hm] at hx0; cases hx0)]
    live := fun x l n hl hx => ⟨l, (old x l n hl hx).2⟩
    foot := fun x _ hx => heap_setCells _ _ _ _ _ fun e => hx ⟨b, k, m, hk, hm, e.symm⟩
    os := o1
    tape := o2
    output := o3
    size := by rw [size_setCells]; exact Nat.le_refl _ }

/-! ### A slice that grows -/
/-- What becomes of a slice S of L elements and room for C, as r elements news come behind it. -/
def Grown (P : Program) (n byt : Nat) (μ : Mp) (h : Hp) (w : World) (S : Value) (r : Nat) (news : List Value) (v : AV) (h' : Hp) : Prop :=
  ∃ base L C, S = .slice base L C ∧
    ((r = 0 ∧ L = 0 ∧ Stp μ h w μ h' w ∧ VR μ v S) ∨
     (L + r ≤ C ∧ ∃ blk off, base = some ⟨blk, off, none⟩ ∧ w.there blk (off + L * n) (r * n) ∧ ∃ ν, Stp μ h w ν h' (w.setCells blk (off + L * n) news) ∧ VR ν v (.slice base (L + r) C)) ∨
     (C < L + r ∧ L + r ≤ 1048576 ∧ byt ≤ 65536 ∧ ∃ olds : List Value, olds.length = L * n ∧ (Builtin.firstCells n L S).run P w.drew = .ok ⟨olds⟩ w.drew ∧
        ∀ (e : TypeId) (rest : Array Value) (C2 : Nat), L + r ≤ C2 → rest.size = (C2 - (L + r)) * n →
          ∃ ν, Stp μ h w ν h' (w.drew.alloc (.cells (⟨olds ++ news⟩ ++ rest) e)) ∧ VR ν v (.slice (some ⟨w.heap.size, 0, none⟩) (L + r) C2)))

theorem small_inv {r byt : Nat} (h : small r byt = true) : r ≤ 1048576 ∧ byt ≤ 65536 := by
  unfold small at h
  simp only [Bool.and_eq_true] at h
  exact ⟨Nat.le_of_ble_eq_true h.1, Nat.le_of_ble_eq_true h.2⟩

/-- The new row. -/
theorem BR.grown {ν : Mp} {w : World} {n c2 : Nat} {sb : Bool} {e : TypeId} {l : List AV} {vs : List Value} {rest : Array Value} (hl : VRs ν l vs) (h1 : ∀ v ∈ vs, v.oneCell' = true) (hr : rest.size = c2 * n) :
    BR ν (w.drew.alloc (.cells (⟨vs⟩ ++ rest) e)) (mkBlk n true sb l) ⟨w.heap.size, 0, c2⟩ := by
  obtain ⟨h2, h3⟩ := cells_ok n l
  have hlen : (mkBlk n true sb l).size = l.length := len_eq l
  refine BR.new (New.drew w _) (.inl rfl) (by rw [hlen]; exact h2) (fun i hi => ?_) ?_ (fun h => by cases h)
  · rw [hlen] at hi
    obtain ⟨v, hv, hr⟩ := hl.get (i := i) (x := l[i]) (by simp [hi])
    have hi' : i < vs.length := by rw [← hl.length]; exact hi
    refine ⟨v, by rw [Array.getElem?_append_left (by simpa using hi')]; simpa using hv, ?_, h1 v (List.mem_of_getElem? hv)⟩
    show VR ν (Cs.get i (Ev.cells n l)) v
    rw [h3 i hi, List.getElem?_eq_getElem hi]; exact hr
  · rw [hlen]
    show l.length + c2 * n ≤ _
    simp [hl.length, hr]

theorem regrow_ok {n : Nat} {sb : Bool} {h : Hp} {L : Nat} {cs : List AV} {q : AV → Hp → Out} {out : Out} (e : regrow n sb h L cs q = out) (hn : out ≠ .no) :
    ∃ h', q (.slc h.next 0 L L false) h' = out ∧ h.next < 65536 ∧ h' = ⟨Nat.succ h.next, (puts Bo 8 h.next).put (.of (mkBlk n true sb cs)) h.t⟩ ∧
      ∀ (μ : Mp) (w : World) (vs : List Value) (e : TypeId) (rest : Array Value) (C2 : Nat), Rel μ h w → VRs μ cs vs → (∀ v ∈ vs, v.oneCell' = true) → L ≤ C2 → rest.size = (C2 - L) * n →
        ∃ ν, Stp μ h w ν h' (w.drew.alloc (.cells (⟨vs⟩ ++ rest) e)) ∧ VR ν (.slc h.next 0 L L false) (.slice (some ⟨w.heap.size, 0, none⟩) L C2) := by
  obtain ⟨hlt, e1⟩ := push_inv e hn
  refine ⟨_, e1, hlt, rfl, fun μ w vs e rest C2 hrel hv h1 hL hr => ?_⟩
  have hid : μ h.next = none := by
    cases e : μ h.next with
    | none => rfl
    | some n => have := (hrel.lt _ n e).1; omega
  refine ⟨upd μ h.next ⟨w.heap.size, 0, C2 - L⟩, Stp.push hrel (New.drew w _) hlt rfl (BR.grown (hv.mono (le_upd hid)) h1 hr), ?_⟩
  have : VR (upd μ h.next ⟨w.heap.size, 0, C2 - L⟩) (.slc h.next 0 L L false) _ := .slc (upd_same _ _ _)
  have e2 : L + (C2 - L) = C2 := by omega
  simpa [e2] using this

theorem grow_ok {n byt : Nat} {h : Hp} {s : AV} {r : Nat} {cells : List AV} {q : AV → Hp → Out} {out : Out} (e : grow n byt h s r cells q = out) (hn : out ≠ .no) :
    ∃ v h', q v h' = out ∧ ∀ (μ : Mp) (w : World) (S : Value) (news : List Value), Rel μ h w → VR μ s S → VRs μ cells news → (∀ v ∈ news, v.oneCell' = true) → news.length = r * n → Grown P n byt μ h w S r news v h' := by
  cases s with
  | nils =>
    rcases bif_or e with ⟨h0, e1⟩ | ⟨h0, e1⟩
    · have h0 : r = 0 := Nat.eq_of_beq_eq_true h0
      refine ⟨_, _, e1, fun μ w S news hrel hS _ _ _ => ?_⟩
      obtain rfl := nils_inv hS
      exact ⟨none, 0, 0, rfl, .inl ⟨h0, rfl, Stp.refl hrel, .nils⟩⟩
    · obtain ⟨hs, e2⟩ := bif_yes e1 hn
      obtain ⟨hs1, hs2⟩ := small_inv hs
      have hr0 : r ≠ 0 := fun e => by subst e; cases h0
      obtain ⟨h', e3, hlt, _, H'⟩ := regrow_ok e2 hn
      refine ⟨_, h', e3, fun μ w S news hrel hS hc h1 hl => ?_⟩
      obtain rfl := nils_inv hS
      refine ⟨none, 0, 0, rfl, .inr (.inr ⟨by omega, by omega, hs2, [], by simp, rfl, fun e rest C2 hC hr => ?_⟩)⟩
      have := H' μ w news e rest C2 hrel hc h1 (by omega) (by simpa using hr)
      simpa using this
  | emp =>
    have e : bif? (q .emp h) .no (Nat.beq r 0) = out := e
    obtain ⟨h0, e1⟩ := bif_yes e hn
    have h0 : r = 0 := Nat.eq_of_beq_eq_true h0
    refine ⟨_, _, e1, fun μ w S news hrel hS _ _ _ => ?_⟩
    cases hS with
    | emp a c => exact ⟨some a, 0, c, rfl, .inl ⟨h0, rfl, Stp.refl hrel, .emp _ _⟩⟩
  | slc b o len cap ex =>
    obtain ⟨k, hk, e1⟩ := blk?_inv (show h.blk? b _ = out from e) hn
    have hsp : (len + r) * n = len * n + r * n := Nat.add_mul _ _ _
    rcases bif_or e1 with ⟨h0, e2⟩ | ⟨h0, e2⟩
    · have h0 := Nat.le_of_ble_eq_true h0
      obtain ⟨h1, e3⟩ := bif_yes e2 hn
      have h1 := Nat.le_of_ble_eq_true h1
      refine ⟨_, _, e3, fun μ w S news hrel hS hc ho hl => ?_⟩
      obtain ⟨m, hm, hS1⟩ := slc_inv hS
      have hbr := hrel.br b k m hk hm
      have hlen := hc.length
      obtain ⟨c1, c2⟩ := Cs.puts_ok cells (o + len * n) k.cs hbr.ok (by omega)
      have hst := Stp.store hrel hk hm hc ho (o := o + len * n) (by omega) c1 c2
      have hassoc : m.base + (o + len * n) = m.base + o + len * n := by omega
      rw [hassoc] at hst
      refine ⟨_, len, _, hS1, .inr (.inl ⟨by omega, m.blk, m.base + o, rfl, ?_, μ, hst, .slc hm⟩)⟩
      rw [← hassoc]
      exact hbr.room (by omega)
    · have h0 := ge_of_ble h0
      obtain ⟨h1, e3⟩ := bif_yes e2 hn
      simp only [Bool.and_eq_true] at h1
      obtain ⟨⟨h1, h2⟩, h3⟩ := h1
      have h1 := Nat.le_of_ble_eq_true h1
      obtain ⟨hs1, hs2⟩ := small_inv h2
      obtain ⟨h', e4, hlt, hh', H'⟩ := regrow_ok e3 hn
      refine ⟨_, h', e4, fun μ w S news hrel hS hc ho hl => ?_⟩
      obtain ⟨m, hm, hS1⟩ := slc_inv hS
      have hbr := hrel.br b k m hk hm
      obtain ⟨olds, ho1, ho2, ho3, ho4⟩ := row_cells hbr o (len * n) h1
      have hrow : VRs μ (appL (Cs.row (len * n) o k.cs) cells) (olds ++ news) := by rw [appL_eq]; exact ho1.app hc
      have hone : ∀ v ∈ olds ++ news, v.oneCell' = true := fun v hv => by
        rcases List.mem_append.1 hv with h | h
        · exact ho3 v h
        · exact ho v h
      have hcells : ∀ C, (Builtin.firstCells n len (.slice (some ⟨m.blk, m.base + o, none⟩) len C)).run P w.drew = .ok ⟨olds⟩ w.drew := fun C => firstCells_slice w.drew n len _ _ len C olds ho2 ho4
      -- a new row
      have anew : (drop? h b ex k.gr = h ∨ drop? h b ex k.gr = h.set b .no) → (cap + if ex then 0 else m.ext) < len + r → Grown P n byt μ h w S r news (.slc (drop? h b ex k.gr).next 0 (len + r) (len + r) false) h' := fun hd hc' => by
        refine ⟨_, len, _, hS1, .inr (.inr ⟨hc', hs1, hs2, olds, ho4, by rw [hS1]; exact hcells _, fun e rest C2 hC hr => ?_⟩)⟩
        rcases hd with hd | hd
        · rw [hd] at H' ⊢
          exact H' μ w _ e rest C2 hrel hrow hone hC hr
        · rw [hd] at H' ⊢
          have s1 := Stp.kill hrel hm
          obtain ⟨ν, s2, hv⟩ := H' μ w _ e rest C2 s1.rel hrow hone hC hr
          exact ⟨ν, s1.trans s2, hv⟩
      cases hex : ex with
      | true => 
        subst hex
        exact anew (.inl rfl) (by simp; omega)
      | false =>
        subst hex
        rcases Bool.eq_false_or_eq_true k.gr |>.symm with hgr | hgr
        · have := hbr.gr hgr
          refine anew (.inl ?_) (by simp; omega)
          unfold drop?; rw [hgr]; rfl
        · have hdrop : drop? h b false k.gr = h.set b .no := by unfold drop?; rw [hgr]; rfl
          unfold moves at h3
          rw [hgr] at h3
          simp only [Bool.false_or, Bool.not_true, Bool.and_eq_true] at h3
          obtain ⟨⟨g1, g2⟩, g3⟩ := h3
          have g1 : k.es = n := Nat.eq_of_beq_eq_true g1
          have g2 : o + cap * n = k.size := Nat.eq_of_beq_eq_true g2
          have g3 := Nat.le_of_ble_eq_true g3
          by_cases hC : len + r ≤ cap + m.ext
          · have hid : μ h.next = none := by
              cases e : μ h.next with
              | none => rfl
              | some n => have := (hrel.lt _ n e).1; omega
            have hext : (len + r) * n + (cap + m.ext - (len + r)) * n = cap * n + m.ext * n := by rw [← Nat.add_mul, ← Nat.add_mul]; congr 1; omega
            have hroom : ∀ j, j < cap * n + m.ext * n → (w.cell? ⟨m.blk, m.base + o + j, none⟩).isSome = true ∧ w.frozen? ⟨m.blk, m.base + o + j, none⟩ = false := fun j hj => by
              have := hbr.there (o + j) (by rw [g1]; omega)
              rwa [← Nat.add_assoc] at this
            have hnl := hc.length
            have hrl := hrow.length
            obtain ⟨c1, c2⟩ := cells_ok n (appL (Cs.row (len * n) o k.cs) cells)
            have hgl : (appL (Cs.row (len * n) o k.cs) cells).length = (len + r) * n := by rw [hrl, List.length_append]; omega
            have hgs : (mkBlk n true k.sb (appL (Cs.row (len * n) o k.cs) cells)).size = (len + r) * n := by rw [← hgl]; exact len_eq _
            have hnb : BR (upd μ h.next ⟨m.blk, m.base + o, cap + m.ext - (len + r)⟩) (w.setCells m.blk (m.base + o + len * n) news) (mkBlk n true k.sb (appL (Cs.row (len * n) o k.cs) cells)) ⟨m.blk, m.base + o, cap + m.ext - (len + r)⟩ := by
              refine ⟨by rw [hgs, ← hgl]; exact c1, fun i hi => ?_, fun i hi => ?_, (fun h => by cases h), fun h x => by rw [World.frozen?_setCells]; exact hbr.sb h x⟩
              · rw [hgs] at hi
                have hi' : i < (appL (Cs.row (len * n) o k.cs) cells).length := by rw [hgl]; exact hi
                obtain ⟨v, hv, hr⟩ := hrow.get (i := i) (x := (appL (Cs.row (len * n) o k.cs) cells)[i]) (by simp [hi'])
                refine ⟨v, ?_, ?_, hone v (List.mem_of_getElem? hv)⟩
                · show (w.setCells m.blk (m.base + o + len * n) news).cell? ⟨m.blk, m.base + o + i, none⟩ = some v
                  rcases Nat.lt_or_ge i (len * n) with hlt | hge
                  · rw [World.cell?_setCells_out m.blk news _ w _ (fun _ _ => by dsimp only; omega)]
                    rw [List.getElem?_append_left (by omega)] at hv
                    exact ho2 i v hv
                  · obtain ⟨j, rfl⟩ : ∃ j, i = len * n + j := ⟨i - len * n, by omega⟩
                    rw [List.getElem?_append_right (by omega)] at hv
                    have hj : j < news.length := by omega
                    have := World.cell?_setCells_in m.blk news (m.base + o + len * n) w (fun j' hj' => by
                      have := (hroom (len * n + j') (by omega)).1
                      rwa [← Nat.add_assoc] at this) j hj
                    rw [← Nat.add_assoc, this, ← hv, ho4, Nat.add_sub_cancel_left, List.getElem?_eq_getElem hj]
                · show VR _ (Cs.get i (Ev.cells n _)) v
                  rw [c2 i hi', List.getElem?_eq_getElem hi']
                  exact hr.mono (le_upd hid)
              · rw [hgs] at hi
                have hi : i < (len + r) * n + (cap + m.ext - (len + r)) * n := hi
                have := hroom i (by omega)
                exact ⟨World.isSome_setCells m.blk news _ w _ this.1, by rw [World.frozen?_setCells]; exact this.2⟩
            refine ⟨_, len, _, hS1, .inr (.inl ⟨by simpa using hC, m.blk, m.base + o, rfl, fun j hj => ?_, upd μ h.next ⟨m.blk, m.base + o, cap + m.ext - (len + r)⟩, ?_, ?_⟩)⟩
            · have := hroom (len * n + j) (by omega)
              rwa [← Nat.add_assoc] at this
            · rw [hh', hdrop]
              exact Stp.reuse hrel hk hm (by rw [hdrop] at hlt; exact hlt) (p := ⟨m.blk, m.base + o, cap + m.ext - (len + r)⟩) rfl hnb
            · have hv : VR (upd μ h.next ⟨m.blk, m.base + o, cap + m.ext - (len + r)⟩) (.slc h.next 0 (len + r) (len + r) false) _ := .slc (upd_same _ _ _)
              have e5 : len + r + (cap + m.ext - (len + r)) = cap + m.ext := by omega
              have hnx : (drop? h b false k.gr).next = h.next := by rw [hdrop]; rfl
              rw [hnx]; simpa [e5] using hv
          · exact anew (.inr hdrop) (by simp; omega)
  | _ => exact absurd e.symm hn

end
end Go.Proofs.YtlkbahknmbgjmaaGreat.Ev
