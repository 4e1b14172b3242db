/-
  What the interpreter's values, blocks and steps say of the model's world.
  No conditions.
-/
import Derived.Test.YtlkbahknmbgjmaaGreatEb
import Derived.Below
import Derived.Laws.World
import Derived.Deep.MidRow
import Derived.Deep.AppendSrc
import Derived.Deep.Draws
namespace Go.Proofs.YtlkbahknmbgjmaaGreat.Ev
open Go

/-- Where an own block lies: the world's block, its first cell, and how many elements more have room behind it. -/
structure Lo where
  blk : Nat
  base : Nat
  ext : Nat
abbrev Mp := Nat → Option Lo
def Mp.le (μ ν : Mp) : Prop := ∀ b m, μ b = some m → ν b = some m
theorem Mp.le_refl (μ : Mp) : μ.le μ := fun _ _ h => h
theorem Mp.le_trans {a b c : Mp} (h : a.le b) (g : b.le c) : a.le c := fun _ _ x => g _ _ (h _ _ x)

mutual
/-- The value that an abstract value stands for. -/
inductive VR (μ : Mp) : AV → Value → Prop
  | top (v : Value) : VR μ .top v
  | sc (v : Value) : v.oneCell' = true → VR μ .sc v
  | nilf : VR μ .nilf .nilFunc
  | emp (a : Addr) (c : Nat) : VR μ .emp (.slice (some a) 0 c)
  | nils : VR μ .nils (.slice none 0 0)
  | nilp : VR μ .nilp (.pointer none)
  | flt (k : FloatKind) (b : Nat) : VR μ (.flt k b) (.float k b)
  | tup {l : List AV} {vs : List Value} : VRs μ l vs → VR μ (.tup l) (.tuple ⟨vs⟩)
  | fn {f : FuncId} {a b : List AV} {as bs : List Value} : VRs μ a as → VRs μ b bs → VR μ (.fn f a b) (.func (.func f) ⟨as⟩ ⟨bs⟩)
  | agg {l : List AV} {vs : List Value} : VRs μ l vs → (∀ v ∈ vs, v.oneCell' = true) → VR μ (.agg l) (.agg ⟨vs⟩)
  | str {s : List Nat} {b : ByteArray} : b.data.toList.map UInt8.toNat = s → VR μ (.str s) (.string b)
  | bool (b : Bool) : VR μ (.bool b) (.bool b)
  | slc {b o len cap : Nat} {ex : Bool} {m : Lo} : μ b = some m → VR μ (.slc b o len cap ex) (.slice (some ⟨m.blk, m.base + o, none⟩) len (cap + if ex then 0 else m.ext))
  | ptr {b o : Nat} {m : Lo} : μ b = some m → VR μ (.ptr b o) (.pointer (some ⟨m.blk, m.base + o, none⟩))
  | int (k : IntKind) (n : Int) : VR μ (.int k n) (.int k n)
inductive VRs (μ : Mp) : List AV → List Value → Prop
  | nil : VRs μ [] []
  | cons {x : AV} {v : Value} {l : List AV} {vs : List Value} : VR μ x v → VRs μ l vs → VRs μ (x :: l) (v :: vs)
end

mutual
theorem VR.mono {μ ν : Mp} (hle : μ.le ν) : ∀ {x : AV} {v : Value}, VR μ x v → VR ν x v
  | _, _, .top v => .top v
  | _, _, .sc v h => .sc v h
  | _, _, .nilf => .nilf
  | _, _, .emp a c => .emp a c
  | _, _, .nils => .nils
  | _, _, .nilp => .nilp
  | _, _, .flt k b => .flt k b
  | _, _, .tup h => .tup (VRs.mono hle h)
  | _, _, .fn h g => .fn (VRs.mono hle h) (VRs.mono hle g)
  | _, _, .agg h o => .agg (VRs.mono hle h) o
  | _, _, .str h => .str h
  | _, _, .bool b => .bool b
  | _, _, .slc h => .slc (hle _ _ h)
  | _, _, .ptr h => .ptr (hle _ _ h)
  | _, _, .int k n => .int k n
theorem VRs.mono {μ ν : Mp} (hle : μ.le ν) : ∀ {l : List AV} {vs : List Value}, VRs μ l vs → VRs ν l vs
  | _, _, .nil => .nil
  | _, _, .cons h t => .cons (VR.mono hle h) (VRs.mono hle t)
end

theorem VRs.length {μ : Mp} : ∀ {l : List AV} {vs : List Value}, VRs μ l vs → l.length = vs.length
  | _, _, .nil => rfl
  | _, _, .cons _ t => congrArg Nat.succ t.length
theorem VRs.get {μ : Mp} : ∀ {l : List AV} {vs : List Value}, VRs μ l vs → ∀ {i : Nat} {x : AV}, l[i]? = some x → ∃ v, vs[i]? = some v ∧ VR μ x v
  | _, _, .nil, _, _, h => by simp at h
  | _, _, .cons (v := v) h _, 0, _, hx => by simp at hx; subst hx; exact ⟨v, rfl, h⟩
  | _, _, .cons _ t, _ + 1, _, hx => t.get (by simpa using hx)
theorem VRs.of_get {μ : Mp} : ∀ {l : List AV} {vs : List Value}, l.length = vs.length → (∀ (i : Nat) (x : AV) (v : Value), l[i]? = some x → vs[i]? = some v → VR μ x v) → VRs μ l vs
  | [], [], _, _ => .nil
  | x :: l, v :: vs, hl, h => .cons (h 0 x v rfl rfl) (VRs.of_get (by simpa using hl) fun i y u hy hu => h (i + 1) y u (by simpa using hy) (by simpa using hu))
  | [], _ :: _, hl, _ => by simp at hl
  | _ :: _, [], hl, _ => by simp at hl
theorem VRs.app {μ : Mp} : ∀ {l : List AV} {vs : List Value} {l' : List AV} {vs' : List Value}, VRs μ l vs → VRs μ l' vs' → VRs μ (l ++ l') (vs ++ vs')
  | _, _, _, _, .nil, h => h
  | _, _, _, _, .cons x t, h => .cons x (t.app h)
theorem VRs.take {μ : Mp} {l : List AV} {vs : List Value} (h : VRs μ l vs) (n : Nat) : VRs μ (l.take n) (vs.take n) :=
  VRs.of_get (by simp [h.length]) fun i x v hx hv => by
    rw [List.getElem?_take] at hx hv
    split at hx
    · rename_i hi
      rw [if_pos hi] at hv
      obtain ⟨u, hu, r⟩ := h.get hx
      rw [hv] at hu; cases hu; exact r
    · cases hx
theorem VRs.drop {μ : Mp} {l : List AV} {vs : List Value} (h : VRs μ l vs) (n : Nat) : VRs μ (l.drop n) (vs.drop n) :=
  VRs.of_get (by simp [h.length]) fun i x v hx hv => by
    rw [List.getElem?_drop] at hx hv
    obtain ⟨u, hu, r⟩ := h.get hx
    rw [hv] at hu; cases hu; exact r

/-! ### Constants -/
theorem ofS_rel (μ : Mp) (v : Value) : VR μ (ofS v) v := by
  unfold ofS
  split <;> constructor <;> rfl
theorem ofSs_rel (μ : Mp) : ∀ (l : List Value), VRs μ (l.map ofS) l
  | [] => .nil
  | v :: l => .cons (ofS_rel μ v) (ofSs_rel μ l)
theorem ofV_rel (μ : Mp) (v : Value) : VR μ (ofV v) v := by
  unfold ofV
  split
  · rename_i cs
    split
    · rename_i h
      refine .agg (ofSs_rel μ cs.toList) fun v hv => ?_
      have := List.all_eq_true.1 h v hv
      cases v <;> first | rfl | cases this
    · exact .top _
  · rename_i cs
    obtain ⟨l⟩ := cs
    cases l with
    | nil => exact .tup .nil
    | cons x l => exact .top _
  · exact ofS_rel μ _

/-! ### Memory -/
/-- Block k lies at m. -/
structure BR (μ : Mp) (w : World) (k : Blk) (m : Lo) : Prop where
  ok : CsOk k.size k.cs
  cell : ∀ i, i < k.size → ∃ v, w.cell? ⟨m.blk, m.base + i, none⟩ = some v ∧ VR μ (Cs.get i k.cs) v ∧ v.oneCell' = true
  there : ∀ i, i < k.size + m.ext * k.es → (w.cell? ⟨m.blk, m.base + i, none⟩).isSome = true ∧ w.frozen? ⟨m.blk, m.base + i, none⟩ = false
  gr : k.gr = false → m.ext = 0
  sb : k.sb = false → ∀ o, w.frozen? ⟨m.blk, o, none⟩ = false

structure Rel (μ : Mp) (h : Hp) (w : World) : Prop where
  lt : ∀ b m, μ b = some m → b < h.next ∧ m.blk < w.heap.size
  br : ∀ b k m, h.get b = .of k → μ b = some m → BR μ w k m
  inj : ∀ b c k l m n, h.get b = .of k → h.get c = .of l → μ b = some m → μ c = some n → b ≠ c → m.blk ≠ n.blk
  nx : h.next ≤ 65536
  fresh : ∀ b, h.next ≤ b → b < 65536 → h.get b = .no

/-- The blocks of the world where alive own blocks lie. -/
def Live (μ : Mp) (h : Hp) (x : Nat) : Prop := ∃ b k m, h.get b = .of k ∧ μ b = some m ∧ m.blk = x

/-- From (μ, h, w) to (ν, g, u): what is turned is own, or new. -/
structure Stp (μ : Mp) (h : Hp) (w : World) (ν : Mp) (g : Hp) (u : World) : Prop where
  le : μ.le ν
  new : ∀ b m, ν b = some m → μ b = some m ∨ (h.next ≤ b ∧ (w.heap.size ≤ m.blk ∨ Live μ h m.blk))
  rel : Rel ν g u
  next : h.next ≤ g.next
  same : ∀ b, b < h.next → μ b = none → g.get b = h.get b
  live : ∀ b k m, g.get b = .of k → μ b = some m → ∃ l, h.get b = .of l
  foot : ∀ x, x < w.heap.size → ¬ Live μ h x → u.heap[x]? = w.heap[x]?
  os : u.os = w.os
  tape : u.tape = w.tape
  output : u.output = w.output
  size : w.heap.size ≤ u.heap.size

theorem Stp.refl {μ : Mp} {h : Hp} {w : World} (r : Rel μ h w) : Stp μ h w μ h w :=
  ⟨μ.le_refl, fun _ _ h => .inl h, r, Nat.le_refl _, fun _ _ _ => rfl, fun _ k _ h _ => ⟨k, h⟩, fun _ _ _ => rfl, rfl, rfl, rfl, Nat.le_refl _⟩

theorem Stp.back {μ : Mp} {h : Hp} {w : World} {ν : Mp} {g : Hp} {u : World} (a : Stp μ h w ν g u) {x : Nat} (hx : x < w.heap.size) (l : Live ν g x) : Live μ h x := by
  obtain ⟨b, k, m, hk, hm, rfl⟩ := l
  rcases a.new b m hm with h1 | ⟨_, h2 | h2⟩
  · obtain ⟨l, hl⟩ := a.live b k m hk h1
    exact ⟨b, l, m, hl, h1, rfl⟩
  · omega
  · exact h2

theorem Stp.trans {μ : Mp} {h : Hp} {w : World} {ν : Mp} {g : Hp} {u : World} {ξ : Mp} {f : Hp} {t : World} (a : Stp μ h w ν g u) (c : Stp ν g u ξ f t) : Stp μ h w ξ f t where
  le := Mp.le_trans a.le c.le
  new b m hm := by
    rcases c.new b m hm with h1 | ⟨h1, h2⟩
    · exact a.new b m h1
    · refine .inr ⟨Nat.le_trans a.next h1, ?_⟩
      rcases h2 with h2 | h2
      · exact .inl (Nat.le_trans a.size h2)
      · rcases Nat.lt_or_ge m.blk w.heap.size with h3 | h3
        · exact .inr (a.back h3 h2)
        · exact .inl h3
  rel := c.rel
  next := Nat.le_trans a.next c.next
  same b hb hm := by
    have hn : ν b = none := by
      cases hv : ν b with
      | none => rfl
      | some m =>
        rcases a.new b m hv with h1 | ⟨h1, _⟩
        · rw [hm] at h1; cases h1
        · omega
    rw [c.same b (Nat.lt_of_lt_of_le hb a.next) hn, a.same b hb hm]
  live b k m hk hm := by
    obtain ⟨l, hl⟩ := c.live b k m hk (a.le _ _ hm)
    exact a.live b l m hl hm
  foot x hx hl := by
    rw [c.foot x (Nat.lt_of_lt_of_le hx a.size) fun l => hl (a.back hx l), a.foot x hx hl]
  os := c.os.trans a.os
  tape := c.tape.trans a.tape
  output := c.output.trans a.output
  size := Nat.le_trans a.size c.size

/-! ### Frames -/
/-- The slots hold what the frame's trees say. -/
def FR (μ : Mp) (fr : F) (tmps : Array Value) : Prop := ∀ t, t < 250 → VR μ ((fget t).get fr) (tmps.getD t undef)

theorem FR.mono {μ ν : Mp} (h : μ.le ν) {fr : F} {tmps : Array Value} (r : FR μ fr tmps) : FR ν fr tmps := fun t ht => (r t ht).mono h

theorem FR.put {μ : Mp} {fr : F} {tmps : Array Value} (r : FR μ fr tmps) (d : Nat) (hd : d < 250) (hs : d < tmps.size) {x : AV} {v : Value} (hv : VR μ x v) : FR μ ((fput d).put x fr) (tmps.setIfInBounds d v) := fun t ht => by
  by_cases he : t = d
  · subst he
    rw [fget_fput _ (by omega)]
    simpa [Array.getD_eq_getD_getElem?, hs] using hv
  · rw [fget_fput_ne d t (by omega) (by omega) he]
    have : (tmps.setIfInBounds d v).getD t undef = tmps.getD t undef := by
      rw [Array.getD_eq_getD_getElem?, Array.getD_eq_getD_getElem?, Array.getElem?_setIfInBounds_ne (Ne.symm he)]
    rw [this]; exact r t ht

theorem opd_rel {μ : Mp} {fr : F} {a : Act} (r : FR μ fr a.tmps) (x : Operand) : VR μ ((opd x).of fr) (a.eval x) := by
  cases x with
  | tmp t =>
    show VR μ ((match Nat.blt t 250 with | true => (⟨(fget t).get⟩ : Vl) | false => ⟨fun _ => .top⟩).of fr) _
    cases h : Nat.blt t 250 with
    | true => exact r t (Nat.blt_eq ▸ h)
    | false => exact .top _
  | const v => exact ofV_rel μ v
  | global g => exact .top _
  | func f => exact .fn .nil .nil

theorem opds_rel {μ : Mp} {fr : F} {a : Act} (r : FR μ fr a.tmps) : ∀ (l : List Operand), VRs μ ((opds l).of fr) (l.map a.eval)
  | [] => .nil
  | x :: l => .cons (opd_rel r x) (opds_rel r l)

/-- What is deferred. -/
inductive DR (μ : Mp) : AV → List Deferred → Prop
  | nil : DR μ (.tup []) []
  | one {g : FuncId} {l b : List AV} {args cap : List Value} : VRs μ l args → VRs μ b cap → DR μ (.fn g l b) [{ target := .fn (.func g) ⟨cap⟩, args := ⟨args⟩ }]

theorem DR.mono {μ ν : Mp} (h : μ.le ν) {x : AV} {l : List Deferred} : DR μ x l → DR ν x l
  | .nil => .nil
  | .one a b => .one (a.mono h) (b.mono h)

/-! ### Ways on, backwards -/
section
variable {out : Out}
theorem int?_inv {k : IntKind → Int → Out} {v : AV} (h : v.int? k = out) (hn : out ≠ .no) : ∃ i n, v = .int i n ∧ k i n = out := by
  cases v <;> first | exact ⟨_, _, rfl, h⟩ | exact absurd h.symm hn
theorem ptr?_inv {k : Nat → Nat → Out} {v : AV} (h : v.ptr? k = out) (hn : out ≠ .no) : ∃ i n, v = .ptr i n ∧ k i n = out := by
  cases v <;> first | exact ⟨_, _, rfl, h⟩ | exact absurd h.symm hn
theorem bool?_inv {k : Bool → Out} {v : AV} (h : v.bool? k = out) (hn : out ≠ .no) : ∃ b, v = .bool b ∧ k b = out := by
  cases v <;> first | exact ⟨_, rfl, h⟩ | exact absurd h.symm hn
theorem str?_inv {k : List Nat → Out} {v : AV} (h : v.str? k = out) (hn : out ≠ .no) : ∃ s, v = .str s ∧ k s = out := by
  cases v <;> first | exact ⟨_, rfl, h⟩ | exact absurd h.symm hn
theorem flt?_inv {k : FloatKind → Nat → Out} {v : AV} (h : v.flt? k = out) (hn : out ≠ .no) : ∃ i n, v = .flt i n ∧ k i n = out := by
  cases v <;> first | exact ⟨_, _, rfl, h⟩ | exact absurd h.symm hn
theorem agg?_inv {k : List AV → Out} {v : AV} (h : v.agg? k = out) (hn : out ≠ .no) : ∃ l, v = .agg l ∧ k l = out := by
  cases v <;> first | exact ⟨_, rfl, h⟩ | exact absurd h.symm hn
theorem tup?_inv {k : List AV → Out} {v : AV} (h : v.tup? k = out) (hn : out ≠ .no) : ∃ l, v = .tup l ∧ k l = out := by
  cases v <;> first | exact ⟨_, rfl, h⟩ | exact absurd h.symm hn
theorem fn?_inv {k : FuncId → List AV → List AV → Out} {v : AV} (h : v.fn? k = out) (hn : out ≠ .no) : ∃ f a b, v = .fn f a b ∧ k f a b = out := by
  cases v <;> first | exact ⟨_, _, _, rfl, h⟩ | exact absurd h.symm hn
theorem slc?_inv {k : Nat → Nat → Nat → Out} {v : AV} (h : v.slc? k = out) (hn : out ≠ .no) : ∃ b o n c ex, v = .slc b o n c ex ∧ k b o n = out := by
  cases v <;> first | exact ⟨_, _, _, _, _, rfl, h⟩ | exact absurd h.symm hn
theorem nat?_inv {k : Nat → Out} {v : AV} (h : v.nat? k = out) (hn : out ≠ .no) : ∃ i n, v = .int i (.ofNat n) ∧ k n = out := by
  obtain ⟨i, n, rfl, h⟩ := int?_inv h hn
  cases n with
  | ofNat n => exact ⟨i, n, rfl, h⟩
  | negSucc n => exact absurd h.symm hn
theorem one?_inv {v : AV} {q : Out} (h : one? v q = out) (hn : out ≠ .no) : q = out ∧ ∀ {μ : Mp} {u : Value}, VR μ v u → u.oneCell' = true := by
  cases v <;> first | exact absurd h.symm hn | exact ⟨h, fun r => by cases r <;> first | rfl | assumption⟩
theorem bif_yes {x : Out} {b : Bool} (h : bif? x .no b = out) (hn : out ≠ .no) : b = true ∧ x = out := by
  cases b with
  | true => exact ⟨rfl, h⟩
  | false => exact absurd h.symm hn
theorem bif_no {x : Out} {b : Bool} (h : bif? .no x b = out) (hn : out ≠ .no) : b = false ∧ x = out := by
  cases b with
  | false => exact ⟨rfl, h⟩
  | true => exact absurd h.symm hn
theorem bif_or {x y : Out} {b : Bool} (h : bif? x y b = out) : (b = true ∧ x = out) ∨ (b = false ∧ y = out) := by
  cases b with
  | true => exact .inl ⟨rfl, h⟩
  | false => exact .inr ⟨rfl, h⟩
theorem blk?_inv {h : Hp} {b : Nat} {k : Blk → Out} (e : h.blk? b k = out) (hn : out ≠ .no) : ∃ l, h.get b = .of l ∧ k l = out := by
  show ∃ l, (gets Bo 8 b).get h.t = .of l ∧ _
  have e' : Bo.ok? k ((gets Bo 8 b).get h.t) = out := e
  cases hb : (gets Bo 8 b).get h.t with
  | no => rw [hb] at e'; exact absurd e'.symm hn
  | of l => rw [hb] at e'; exact ⟨l, rfl, e'⟩
end

/-! ### Types -/
theorem nth2_chunks {α : Type} : ∀ (n : Nat) (l : List α) (i : Nat) (x : α), nth2 (chunks n l) i = some x → l[i]? = some x
  | 0, l, i, x, h => by simp [nth2, chunks, nth_eq] at h
  | n + 1, l, i, x, h => by
    unfold nth2 at h
    rw [nth_eq] at h
    have hd : i.div 16 = i / 16 := rfl
    have hm : i.mod 16 = i % 16 := rfl
    rw [hd, hm] at h
    have hc : chunks (n + 1) l = l.take 16 :: chunks n (l.drop 16) := rfl
    by_cases hi : i < 16
    · have e0 : i / 16 = 0 := by omega
      have e1 : i % 16 = i := by omega
      rw [e0, e1, hc] at h
      simp only [List.getElem?_cons_zero, nth_eq] at h
      rw [List.getElem?_take, if_pos hi] at h; exact h
    · obtain ⟨j, rfl⟩ : ∃ j, i = j + 16 := ⟨i - 16, by omega⟩
      have e0 : (j + 16) / 16 = j / 16 + 1 := by omega
      have e1 : (j + 16) % 16 = j % 16 := by omega
      rw [e0, e1, hc, List.getElem?_cons_succ] at h
      have := nth2_chunks n (l.drop 16) j x (by unfold nth2; rw [nth_eq]; exact h)
      rw [List.getElem?_drop] at this
      rw [Nat.add_comm]; exact this

structure TyOk (P : Program) (t : TypeId) (y : Ty) (i : TypeInfo) : Prop where
  info : P.info? t = some i
  siz : i.size = y.siz
  byt : i.bytes = y.byt
  zer : zerOf i.zero = y.zer
  und : P.underlying t = some y.und
  kd : kdOf y.und = y.kd

theorem info_of (P : Program) (t : TypeId) (i : TypeInfo) (h : nth2 (infos P) t = some i) : P.info? t = some i := by
  have h1 := nth2_chunks _ _ _ _ h
  rw [Array.getElem?_toList] at h1
  have hlt : t < P.types.size := (Array.getElem?_eq_some_iff.1 h1).1
  unfold Tables.info?
  rw [if_pos hlt]; exact h1

theorem ty_some {P : Program} {t : TypeId} {y : Ty} (h : ty P t = some y) : ∃ i, TyOk P t y i := by
  unfold ty at h
  cases h1 : nth2 (infos P) t with
  | none => rw [h1] at h; cases h
  | some i =>
    rw [h1] at h
    have hi := info_of P t i h1
    refine ⟨i, ?_⟩
    cases hd : i.desc with
    | named n u =>
      simp only [hd] at h
      cases h2 : nth2 (infos P) u with
      | none => rw [h2] at h; cases h
      | some j =>
        rw [h2] at h
        obtain rfl := Option.some.inj h
        have hj := info_of P u j h2
        refine ⟨hi, rfl, rfl, rfl, ?_, rfl⟩
        unfold Program.underlying
        rw [hi]
        obtain ⟨d, _⟩ := i
        simp only at hd
        subst hd
        simp [hj]
    | _ =>
      simp only [hd] at h
      obtain rfl := Option.some.inj h
      refine ⟨hi, rfl, rfl, rfl, ?_, rfl⟩
      unfold Program.underlying
      rw [hi]
      obtain ⟨d, _⟩ := i
      simp only at hd
      subst hd
      rfl

theorem kd_some {P : Program} {t : TypeId} {k : Kd} (h : kd P t = k) (hn : k ≠ .no) : ∃ y i, ty P t = some y ∧ y.kd = k ∧ TyOk P t y i := by
  unfold kd at h
  cases h1 : ty P t with
  | none => rw [h1] at h; exact absurd h.symm hn
  | some y =>
    rw [h1] at h
    obtain ⟨i, hi⟩ := ty_some h1
    exact ⟨y, i, rfl, h, hi⟩
theorem siz_of {P : Program} {t : TypeId} {y : Ty} (h : ty P t = some y) : siz P t = y.siz := by unfold siz; rw [h]
theorem byt_of {P : Program} {t : TypeId} {y : Ty} (h : ty P t = some y) : byt P t = y.byt := by unfold byt; rw [h]
theorem zer_of {P : Program} {t : TypeId} {y : Ty} (h : ty P t = some y) : zer P t = y.zer := by unfold zer; rw [h]
theorem siz_pos {P : Program} {t : TypeId} {n : Nat} (h : siz P t = n) (hn : n ≠ 0) : ∃ y i, ty P t = some y ∧ TyOk P t y i ∧ i.size = n ∧ P.info? t = some i := by
  unfold siz at h
  cases h1 : ty P t with
  | none => rw [h1] at h; exact absurd h.symm hn
  | some y =>
    rw [h1] at h
    obtain ⟨i, hi⟩ := ty_some h1
    exact ⟨y, i, rfl, hi, hi.siz.trans h, hi.info⟩

section
variable {d : TypeDesc}
theorem kdOf_b (h : kdOf d = .b) : d = .bool := by cases d <;> simp_all [kdOf]
theorem kdOf_i {k : IntKind} (h : kdOf d = .i k) : d = .int k := by cases d <;> simp_all [kdOf]
theorem kdOf_f {k : FloatKind} (h : kdOf d = .f k) : d = .float k := by cases d <;> simp_all [kdOf]
theorem kdOf_s (h : kdOf d = .s) : d = .string := by cases d <;> simp_all [kdOf]
theorem kdOf_p {e : TypeId} (h : kdOf d = .p e) : d = .pointer e := by cases d <;> simp_all [kdOf]
theorem kdOf_sl {e : TypeId} (h : kdOf d = .sl e) : d = .slice e := by cases d <;> simp_all [kdOf]
theorem kdOf_ar {n : Nat} {e : TypeId} (h : kdOf d = .ar n e) : d = .array n e := by cases d <;> simp_all [kdOf]
theorem kdOf_st {fs : List (Nat × TypeId)} (h : kdOf d = .st fs) : ∃ l : Array Field, d = .struct l ∧ fs = l.toList.map fun f => (f.offset, f.type) := by
  cases d <;> simp_all [kdOf]
end

theorem und_b {P : Program} {t : TypeId} (h : kd P t = .b) : P.underlying t = some .bool := by
  obtain ⟨y, i, _, hk, o⟩ := kd_some h (by simp); rw [o.und, kdOf_b (o.kd.trans hk)]
theorem und_i {P : Program} {t : TypeId} {k : IntKind} (h : kd P t = .i k) : P.underlying t = some (.int k) := by
  obtain ⟨y, i, _, hk, o⟩ := kd_some h (by simp); rw [o.und, kdOf_i (o.kd.trans hk)]
theorem und_f {P : Program} {t : TypeId} {k : FloatKind} (h : kd P t = .f k) : P.underlying t = some (.float k) := by
  obtain ⟨y, i, _, hk, o⟩ := kd_some h (by simp); rw [o.und, kdOf_f (o.kd.trans hk)]
theorem und_s {P : Program} {t : TypeId} (h : kd P t = .s) : P.underlying t = some .string := by
  obtain ⟨y, i, _, hk, o⟩ := kd_some h (by simp); rw [o.und, kdOf_s (o.kd.trans hk)]
theorem und_p {P : Program} {t e : TypeId} (h : kd P t = .p e) : P.underlying t = some (.pointer e) := by
  obtain ⟨y, i, _, hk, o⟩ := kd_some h (by simp); rw [o.und, kdOf_p (o.kd.trans hk)]
theorem und_sl {P : Program} {t e : TypeId} (h : kd P t = .sl e) : P.underlying t = some (.slice e) := by
  obtain ⟨y, i, _, hk, o⟩ := kd_some h (by simp); rw [o.und, kdOf_sl (o.kd.trans hk)]
theorem und_ar {P : Program} {t e : TypeId} {n : Nat} (h : kd P t = .ar n e) : P.underlying t = some (.array n e) := by
  obtain ⟨y, i, _, hk, o⟩ := kd_some h (by simp); rw [o.und, kdOf_ar (o.kd.trans hk)]
theorem und_st {P : Program} {t : TypeId} {fs : List (Nat × TypeId)} (h : kd P t = .st fs) : ∃ l : Array Field, P.underlying t = some (.struct l) ∧ fs = l.toList.map fun f => (f.offset, f.type) := by
  obtain ⟨y, i, _, hk, o⟩ := kd_some h (by simp)
  obtain ⟨l, e1, e2⟩ := kdOf_st (o.kd.trans hk)
  exact ⟨l, by rw [o.und, e1], e2⟩

end Go.Proofs.YtlkbahknmbgjmaaGreat.Ev
