/-
  An interpreter of the program's code over an abstract memory, made for the kernel: what is known ahead of the run is worked out once (structures of functions). Nothing is proved here.
  No conditions.
-/
import Derived.Calls
namespace Go.Proofs.YtlkbahknmbgjmaaGreat.Ev
open Go
noncomputable section

/-! ### Values: numbers of own blocks in the place of addresses; .top: not known -/
inductive AV where
  | top | sc | nilf | emp | nils | nilp
  | flt (k : FloatKind) (b : Nat)
  | tup (l : List AV) | fn (f : FuncId) (fst cap : List AV) | agg (l : List AV)
  | str (s : List Nat) | bool (b : Bool) | slc (b o len cap : Nat) (ex : Bool) | ptr (b o : Nat) | int (k : IntKind) (n : Int)

/-! ### Trees of four -/
structure Q (α : Type) where
  a : α
  b : α
  c : α
  d : α

def QT (α : Type) (n : Nat) : Type := Nat.rec (motive := fun _ => Type) α (fun _ T => Q T) n

def QT.all {α : Type} (v : α) (n : Nat) : QT α n := Nat.rec (motive := fun n => QT α n) v (fun _ t => ⟨t, t, t, t⟩) n

structure Gt (α : Type) (n : Nat) where
  get : QT α n → α
structure Pt (α : Type) (n : Nat) where
  put : α → QT α n → QT α n

/-- One of four places. -/
structure Ac where
  pr : (β : Type) → Q β → β
  up : (β : Type) → (β → β) → Q β → Q β
def ac0 : Ac := ⟨fun _ t => Q.a t, fun β f t => Q.rec (motive := fun _ => Q β) (fun a b c d => ⟨f a, b, c, d⟩) t⟩
def ac1 : Ac := ⟨fun _ t => Q.b t, fun β f t => Q.rec (motive := fun _ => Q β) (fun a b c d => ⟨a, f b, c, d⟩) t⟩
def ac2 : Ac := ⟨fun _ t => Q.c t, fun β f t => Q.rec (motive := fun _ => Q β) (fun a b c d => ⟨a, b, f c, d⟩) t⟩
def ac3 : Ac := ⟨fun _ t => Q.d t, fun β f t => Q.rec (motive := fun _ => Q β) (fun a b c d => ⟨a, b, c, f d⟩) t⟩
def acs (x : Nat) : Ac := Nat.rec (motive := fun _ => Ac) ac0 (fun m _ => Nat.rec (motive := fun _ => Ac) ac1 (fun m _ => Nat.rec (motive := fun _ => Ac) ac2 (fun _ _ => ac3) m) m) x

def gets (α : Type) (n i : Nat) : Gt α n :=
  Nat.rec (motive := fun n => Nat → Gt α n) (fun _ => ⟨fun t => t⟩)
    (fun n ih i => ⟨fun t => (ih (Nat.div i 4)).get ((acs (Nat.mod i 4)).pr (QT α n) t)⟩) n i
def puts (α : Type) (n i : Nat) : Pt α n :=
  Nat.rec (motive := fun n => Nat → Pt α n) (fun _ => ⟨fun v _ => v⟩)
    (fun n ih i => ⟨fun v t => (acs (Nat.mod i 4)).up (QT α n) ((ih (Nat.div i 4)).put v) t⟩) n i

/-! ### Frames: 256 slots -/
structure H (α : Type) where
  c0 : α
  c1 : α
  c2 : α
  c3 : α
  c4 : α
  c5 : α
  c6 : α
  c7 : α
  c8 : α
  c9 : α
  c10 : α
  c11 : α
  c12 : α
  c13 : α
  c14 : α
  c15 : α
structure Ah where
  pr : (β : Type) → H β → β
  up : (β : Type) → (β → β) → H β → H β
def ah0 : Ah := ⟨fun _ t => H.c0 t, fun β f t => H.rec (motive := fun _ => H β) (fun x0 x1 x2 x3 x4 x5 x6 x7 x8 x9 x10 x11 x12 x13 x14 x15 => ⟨f x0, x1, x2, x3, x4, x5, x6, x7, x8, x9, x10, x11, x12, x13, x14, x15⟩) t⟩
def ah1 : Ah := ⟨fun _ t => H.c1 t, fun β f t => H.rec (motive := fun _ => H β) (fun x0 x1 x2 x3 x4 x5 x6 x7 x8 x9 x10 x11 x12 x13 x14 x15 => ⟨x0, f x1, x2, x3, x4, x5, x6, x7, x8, x9, x10, x11, x12, x13, x14, x15⟩) t⟩
def ah2 : Ah := ⟨fun _ t => H.c2 t, fun β f t => H.rec (motive := fun _ => H β) (fun x0 x1 x2 x3 x4 x5 x6 x7 x8 x9 x10 x11 x12 x13 x14 x15 => ⟨x0, x1, f x2, x3, x4, x5, x6, x7, x8, x9, x10, x11, x12, x13, x14, x15⟩) t⟩
def ah3 : Ah := ⟨fun _ t => H.c3 t, fun β f t => H.rec (motive := fun _ => H β) (fun x0 x1 x2 x3 x4 x5 x6 x7 x8 x9 x10 x11 x12 x13 x14 x15 => ⟨x0, x1, x2, f x3, x4, x5, x6, x7, x8, x9, x10, x11, x12, x13, x14, x15⟩) t⟩
def ah4 : Ah := ⟨fun _ t => H.c4 t, fun β f t => H.rec (motive := fun _ => H β) (fun x0 x1 x2 x3 x4 x5 x6 x7 x8 x9 x10 x11 x12 x13 x14 x15 => ⟨x0, x1, x2, x3, f x4, x5, x6, x7, x8, x9, x10, x11, x12, x13, x14, x15⟩) t⟩
def ah5 : Ah := ⟨fun _ t => H.c5 t, fun β f t => H.rec (motive := fun _ => H β) (fun x0 x1 x2 x3 x4 x5 x6 x7 x8 x9 x10 x11 x12 x13 x14 x15 => ⟨x0, x1, x2, x3, x4, f x5, x6, x7, x8, x9, x10, x11, x12, x13, x14, x15⟩) t⟩
def ah6 : Ah := ⟨fun _ t => H.c6 t, fun β f t => H.rec (motive := fun _ => H β) (fun x0 x1 x2 x3 x4 x5 x6 x7 x8 x9 x10 x11 x12 x13 x14 x15 => ⟨x0, x1, x2, x3, x4, x5, f x6, x7, x8, x9, x10, x11, x12, x13, x14, x15⟩) t⟩
def ah7 : Ah := ⟨fun _ t => H.c7 t, fun β f t => H.rec (motive := fun _ => H β) (fun x0 x1 x2 x3 x4 x5 x6 x7 x8 x9 x10 x11 x12 x13 x14 x15 => ⟨x0, x1, x2, x3, x4, x5, x6, f x7, x8, x9, x10, x11, x12, x13, x14, x15⟩) t⟩
def ah8 : Ah := ⟨fun _ t => H.c8 t, fun β f t => H.rec (motive := fun _ => H β) (fun x0 x1 x2 x3 x4 x5 x6 x7 x8 x9 x10 x11 x12 x13 x14 x15 => ⟨x0, x1, x2, x3, x4, x5, x6, x7, f x8, x9, x10, x11, x12, x13, x14, x15⟩) t⟩
def ah9 : Ah := ⟨fun _ t => H.c9 t, fun β f t => H.rec (motive := fun _ => H β) (fun x0 x1 x2 x3 x4 x5 x6 x7 x8 x9 x10 x11 x12 x13 x14 x15 => ⟨x0, x1, x2, x3, x4, x5, x6, x7, x8, f x9, x10, x11, x12, x13, x14, x15⟩) t⟩
def ah10 : Ah := ⟨fun _ t => H.c10 t, fun β f t => H.rec (motive := fun _ => H β) (fun x0 x1 x2 x3 x4 x5 x6 x7 x8 x9 x10 x11 x12 x13 x14 x15 => ⟨x0, x1, x2, x3, x4, x5, x6, x7, x8, x9, f x10, x11, x12, x13, x14, x15⟩) t⟩
def ah11 : Ah := ⟨fun _ t => H.c11 t, fun β f t => H.rec (motive := fun _ => H β) (fun x0 x1 x2 x3 x4 x5 x6 x7 x8 x9 x10 x11 x12 x13 x14 x15 => ⟨x0, x1, x2, x3, x4, x5, x6, x7, x8, x9, x10, f x11, x12, x13, x14, x15⟩) t⟩
def ah12 : Ah := ⟨fun _ t => H.c12 t, fun β f t => H.rec (motive := fun _ => H β) (fun x0 x1 x2 x3 x4 x5 x6 x7 x8 x9 x10 x11 x12 x13 x14 x15 => ⟨x0, x1, x2, x3, x4, x5, x6, x7, x8, x9, x10, x11, f x12, x13, x14, x15⟩) t⟩
def ah13 : Ah := ⟨fun _ t => H.c13 t, fun β f t => H.rec (motive := fun _ => H β) (fun x0 x1 x2 x3 x4 x5 x6 x7 x8 x9 x10 x11 x12 x13 x14 x15 => ⟨x0, x1, x2, x3, x4, x5, x6, x7, x8, x9, x10, x11, x12, f x13, x14, x15⟩) t⟩
def ah14 : Ah := ⟨fun _ t => H.c14 t, fun β f t => H.rec (motive := fun _ => H β) (fun x0 x1 x2 x3 x4 x5 x6 x7 x8 x9 x10 x11 x12 x13 x14 x15 => ⟨x0, x1, x2, x3, x4, x5, x6, x7, x8, x9, x10, x11, x12, x13, f x14, x15⟩) t⟩
def ah15 : Ah := ⟨fun _ t => H.c15 t, fun β f t => H.rec (motive := fun _ => H β) (fun x0 x1 x2 x3 x4 x5 x6 x7 x8 x9 x10 x11 x12 x13 x14 x15 => ⟨x0, x1, x2, x3, x4, x5, x6, x7, x8, x9, x10, x11, x12, x13, x14, f x15⟩) t⟩
def ahs : Nat → Ah
  | 0 => ah0
  | 1 => ah1
  | 2 => ah2
  | 3 => ah3
  | 4 => ah4
  | 5 => ah5
  | 6 => ah6
  | 7 => ah7
  | 8 => ah8
  | 9 => ah9
  | 10 => ah10
  | 11 => ah11
  | 12 => ah12
  | 13 => ah13
  | 14 => ah14
  | _ => ah15
abbrev F := H (H AV)
def H.all {β : Type} (v : β) : H β := ⟨v, v, v, v, v, v, v, v, v, v, v, v, v, v, v, v⟩
def F.all (v : AV) : F := H.all (H.all v)
structure Fg where
  get : F → AV
structure Fp where
  put : AV → F → F
def fget (i : Nat) : Fg := ⟨fun t => (ahs (Nat.mod i 16)).pr AV ((ahs (Nat.div i 16)).pr (H AV) t)⟩
def fput (i : Nat) : Fp := ⟨fun v t => (ahs (Nat.div i 16)).up (H AV) ((ahs (Nat.mod i 16)).up AV fun _ => v) t⟩

/-! ### Memory -/
/-- A block's cells: a row, a tree, a tree of rows of e cells each. -/
inductive Cs where
  | li (l : List AV) | m (t : QT AV 4) | l (t : QT AV 6) | ch (e : Nat) (t : QT (List AV) 6)

/-- size: cells; es: cells of an element; gr: it may have more room than is known; sb: a string's bytes made it. -/
structure Blk where
  size : Nat
  es : Nat
  gr : Bool
  sb : Bool
  cs : Cs

inductive Bo where
  | no | of (k : Blk)

structure Hp where
  next : Nat
  t : QT Bo 8

inductive Out where
  | no | nrm (fr : F) (h : Hp) | exi (id : Nat) (fr : F) (h : Hp) | ret (fr : F) (h : Hp)

/-! ### Ways on -/
def AV.int? (k : IntKind → Int → Out) (v : AV) : Out := @AV.rec (fun _ => Out) (fun _ => Out) .no .no .no .no .no .no (fun _ _ => .no) (fun _ _ => .no) (fun _ _ _ _ _ => .no) (fun _ _ => .no) (fun _ => .no) (fun _ => .no) (fun _ _ _ _ _ => .no) (fun _ _ => .no) k .no (fun _ _ _ _ => .no) v
def AV.ptr? (k : Nat → Nat → Out) (v : AV) : Out := @AV.rec (fun _ => Out) (fun _ => Out) .no .no .no .no .no .no (fun _ _ => .no) (fun _ _ => .no) (fun _ _ _ _ _ => .no) (fun _ _ => .no) (fun _ => .no) (fun _ => .no) (fun _ _ _ _ _ => .no) k (fun _ _ => .no) .no (fun _ _ _ _ => .no) v
def AV.bool? (k : Bool → Out) (v : AV) : Out := @AV.rec (fun _ => Out) (fun _ => Out) .no .no .no .no .no .no (fun _ _ => .no) (fun _ _ => .no) (fun _ _ _ _ _ => .no) (fun _ _ => .no) (fun _ => .no) k (fun _ _ _ _ _ => .no) (fun _ _ => .no) (fun _ _ => .no) .no (fun _ _ _ _ => .no) v
def AV.str? (k : List Nat → Out) (v : AV) : Out := @AV.rec (fun _ => Out) (fun _ => Out) .no .no .no .no .no .no (fun _ _ => .no) (fun _ _ => .no) (fun _ _ _ _ _ => .no) (fun _ _ => .no) k (fun _ => .no) (fun _ _ _ _ _ => .no) (fun _ _ => .no) (fun _ _ => .no) .no (fun _ _ _ _ => .no) v
def AV.flt? (k : FloatKind → Nat → Out) (v : AV) : Out := @AV.rec (fun _ => Out) (fun _ => Out) .no .no .no .no .no .no k (fun _ _ => .no) (fun _ _ _ _ _ => .no) (fun _ _ => .no) (fun _ => .no) (fun _ => .no) (fun _ _ _ _ _ => .no) (fun _ _ => .no) (fun _ _ => .no) .no (fun _ _ _ _ => .no) v
def AV.agg? (k : List AV → Out) (v : AV) : Out := @AV.rec (fun _ => Out) (fun _ => Out) .no .no .no .no .no .no (fun _ _ => .no) (fun _ _ => .no) (fun _ _ _ _ _ => .no) (fun l _ => k l) (fun _ => .no) (fun _ => .no) (fun _ _ _ _ _ => .no) (fun _ _ => .no) (fun _ _ => .no) .no (fun _ _ _ _ => .no) v
def AV.tup? (k : List AV → Out) (v : AV) : Out := @AV.rec (fun _ => Out) (fun _ => Out) .no .no .no .no .no .no (fun _ _ => .no) (fun l _ => k l) (fun _ _ _ _ _ => .no) (fun _ _ => .no) (fun _ => .no) (fun _ => .no) (fun _ _ _ _ _ => .no) (fun _ _ => .no) (fun _ _ => .no) .no (fun _ _ _ _ => .no) v
def AV.fn? (k : FuncId → List AV → List AV → Out) (v : AV) : Out := @AV.rec (fun _ => Out) (fun _ => Out) .no .no .no .no .no .no (fun _ _ => .no) (fun _ _ => .no) (fun f a b _ _ => k f a b) (fun _ _ => .no) (fun _ => .no) (fun _ => .no) (fun _ _ _ _ _ => .no) (fun _ _ => .no) (fun _ _ => .no) .no (fun _ _ _ _ => .no) v
def AV.nat? (k : Nat → Out) (v : AV) : Out := v.int? fun _ n => Int.rec (motive := fun _ => Out) k (fun _ => .no) n

def bif? (x y : Out) (b : Bool) : Out := Bool.rec (motive := fun _ => Out) y x b

def Bo.ok? (k : Blk → Out) (b : Bo) : Out := Bo.rec (motive := fun _ => Out) .no k b

def Hp.get (h : Hp) (b : Nat) : Bo := (gets Bo 8 b).get h.t
def Hp.blk? (h : Hp) (b : Nat) (k : Blk → Out) : Out := Bo.ok? k ((gets Bo 8 b).get h.t)
def Hp.set (h : Hp) (b : Nat) (k : Bo) : Hp := ⟨h.next, (puts Bo 8 b).put k h.t⟩
/-- A new block; there are no more than 65536. -/
def Hp.push (h : Hp) (k : Blk) (q : Hp → Out) : Out := bif? (q ⟨Nat.succ h.next, (puts Bo 8 h.next).put (.of k) h.t⟩) .no (Nat.ble (Nat.succ h.next) 65536)

def sel {β : Type} (x y : β) (b : Bool) : β := Bool.rec (motive := fun _ => β) y x b

def nthD (l : List AV) (i : Nat) : AV := List.rec (motive := fun _ => Nat → AV) (fun _ => .top) (fun x _ ih i => Nat.rec (motive := fun _ => AV) x (fun m _ => ih m) i) l i
def setL (v : AV) (l : List AV) (i : Nat) : List AV := List.rec (motive := fun _ => Nat → List AV) (fun _ => []) (fun x l ih i => Nat.rec (motive := fun _ => List AV) (v :: l) (fun m _ => x :: ih m) i) l i
/-- n cells from i on -/
def takeL (l : List AV) (n : Nat) : List AV := List.rec (motive := fun _ => Nat → List AV) (fun _ => []) (fun x _ ih n => Nat.rec (motive := fun _ => List AV) [] (fun m _ => x :: ih m) n) l n
def dropL (l : List AV) (n : Nat) : List AV := List.rec (motive := fun _ => Nat → List AV) (fun _ => []) (fun x l ih n => Nat.rec (motive := fun _ => List AV) (x :: l) (fun m _ => ih m) n) l n
def appL (x y : List AV) : List AV := List.rec (motive := fun _ => List AV) y (fun v _ ih => v :: ih) x
def len (l : List AV) : Nat := List.rec (motive := fun _ => Nat) 0 (fun _ _ n => Nat.succ n) l
/-- The cells from i on, as many as l has, are l. -/
def overL (l : List AV) (b : List AV) (i : Nat) : List AV := List.rec (motive := fun _ => Nat → List AV) (fun _ => []) (fun x b ih i => Nat.rec (motive := fun _ => List AV) (appL l (dropL (x :: b) (len l))) (fun m _ => x :: ih m) i) b i

def Cs.get (i : Nat) (c : Cs) : AV := Cs.rec (motive := fun _ => AV) (fun l => nthD l i) (fun t => (gets AV 4 i).get t) (fun t => (gets AV 6 i).get t) (fun e t => nthD ((gets (List AV) 6 (Nat.div i e)).get t) (Nat.mod i e)) c
def Cs.put (i : Nat) (v : AV) (c : Cs) : Cs := Cs.rec (motive := fun _ => Cs) (fun l => .li (setL v l i)) (fun t => .m ((puts AV 4 i).put v t)) (fun t => .l ((puts AV 6 i).put v t))
  (fun e t => .ch e ((puts (List AV) 6 (Nat.div i e)).put (setL v ((gets (List AV) 6 (Nat.div i e)).get t) (Nat.mod i e)) t)) c
def rowBy (g : Nat → AV) (n i : Nat) : List AV := Nat.rec (motive := fun _ => Nat → List AV) (fun _ => []) (fun _ ih i => g i :: ih (Nat.succ i)) n i
def putsBy (l : List AV) (i : Nat) (c : Cs) : Cs := List.rec (motive := fun _ => Nat → Cs → Cs) (fun _ c => c) (fun v _ ih i c => ih (Nat.succ i) (Cs.put i v c)) l i c
/-- n cells from i on -/
def Cs.row (n i : Nat) (c : Cs) : List AV := Cs.rec (motive := fun _ => List AV) (fun l => takeL (dropL l i) n) (fun t => rowBy (fun i => (gets AV 4 i).get t) n i) (fun t => rowBy (fun i => (gets AV 6 i).get t) n i)
  (fun e t => sel (takeL (dropL ((gets (List AV) 6 (Nat.div i e)).get t) (Nat.mod i e)) n) (rowBy (fun i => nthD ((gets (List AV) 6 (Nat.div i e)).get t) (Nat.mod i e)) n i) (Nat.ble (Nat.add (Nat.mod i e) n) e)) c
def Cs.puts (l : List AV) (i : Nat) (c : Cs) : Cs := Cs.rec (motive := fun _ => Cs) (fun b => .li (overL l b i)) (fun t => putsBy l i (.m t)) (fun t => putsBy l i (.l t))
  (fun e t => sel (.ch e ((Ev.puts (List AV) 6 (Nat.div i e)).put (overL l ((gets (List AV) 6 (Nat.div i e)).get t) (Nat.mod i e)) t)) (putsBy l i (.ch e t)) (Nat.ble (Nat.add (Nat.mod i e) (len l)) e)) c
def Blk.wth (k : Blk) (c : Cs) : Blk := ⟨k.size, k.es, k.gr, k.sb, c⟩

/-- A block's room: n cells in elements of e cells, all v; none: too large. -/
def blank (n e : Nat) (v : AV) : Option Cs :=
  sel (some (.li (List.replicate n v))) (sel (some (.l (QT.all v 6))) (sel (some (.ch e (QT.all (List.replicate e v) 6))) none (Nat.ble 1 e && Nat.ble (Nat.succ n) (Nat.mul 4096 e))) (Nat.ble n 4096 && Nat.beq e 1)) (Nat.ble n 300)

/-- A row as cells. -/
def cells (es : Nat) (l : List AV) : Cs := sel (.li l) (sel (putsBy l 0 (.m (QT.all .top 4))) (sel (putsBy l 0 (.l (QT.all .top 6))) (.li l) (Nat.ble (len l) 4096)) (Nat.ble (len l) 256)) (Nat.beq es 1 || Nat.ble (len l) 16)

def mkBlk (es : Nat) (gr sb : Bool) (l : List AV) : Blk := ⟨len l, es, gr, sb, cells es l⟩

/-! ### What is known ahead -/
structure Vl where
  of : F → AV
structure Ca where
  call : FuncId → List AV → Hp → (AV → Hp → Out) → Out
structure Cm where
  run : Ca → F → Hp → Out
structure Dm where
  run : Ca → Nat → List Hp → F → Hp → Out

/-- An operation: it yields a value (rd), and a new block (al), and turns memory (wr); a deferred call (df). -/
inductive OpC where
  | no
  | rd (f : F → Hp → (AV → Out) → Out)
  | al (f : Nat → F → (AV → Blk → Out) → Out)
  | wr (f : Ca → F → Hp → (AV → Hp → Out) → Out)
  | df (f : F → (AV → Out) → Out)

def ofS : Value → AV
  | .bool b => .bool b
  | .int k n => .int k n
  | .float k b => .flt k b
  | .string s => .str (s.data.toList.map UInt8.toNat)
  | .pointer none => .nilp
  | .slice none 0 0 => .nils
  | .nilFunc => .nilf
  | _ => .top

/-- Is it one cell? -/
def isOne : Value → Bool
  | .agg _ => false
  | .tuple _ => false
  | _ => true

def ofV : Value → AV
  | .agg cs => match cs.toList.all isOne with
    | true => .agg (cs.toList.map ofS)
    | false => .top
  | .tuple cs => match cs.toList with
    | [] => .tup []
    | _ => .top
  | v => ofS v

def AV.cells : AV → List AV
  | .agg l => l
  | v => [v]

inductive Kd where
  | b | i (k : IntKind) | f (k : FloatKind) | s | p (e : TypeId) | sl (e : TypeId) | ar (n : Nat) (e : TypeId) | st (fs : List (Nat × TypeId)) | fn | no

def nth {α : Type} (l : List α) (i : Nat) : Option α := List.rec (motive := fun _ => Nat → Option α) (fun _ => none) (fun x _ ih i => Nat.rec (motive := fun _ => Option α) (some x) (fun m _ => ih m) i) l i
def chunks {α : Type} : Nat → List α → List (List α)
  | 0, _ => []
  | n + 1, l => l.take 16 :: chunks n (l.drop 16)
def nth2 {α : Type} (c : List (List α)) (i : Nat) : Option α := match nth c (Nat.div i 16) with
  | some l => nth l (Nat.mod i 16)
  | none => none

structure Ty where
  kd : Kd
  siz : Nat
  byt : Nat
  zer : AV
  und : TypeDesc

def kdOf : TypeDesc → Kd
  | .bool => .b
  | .int k => .i k
  | .float k => .f k
  | .string => .s
  | .pointer e => .p e
  | .slice e => .sl e
  | .array n e => .ar n e
  | .struct fs => .st (fs.toList.map fun f => (f.offset, f.type))
  | .func _ _ _ => .fn
  | _ => .no

def zerOf : Option Value → AV
  | some v => ofV v
  | none => .top

section
variable (P : Program)

def infos : List (List TypeInfo) := chunks 64 P.types.toList
def ty (t : TypeId) : Option Ty := match nth2 (infos P) t with
  | none => none
  | some i => match i.desc with
    | .named _ u => match nth2 (infos P) u with
      | some j => some ⟨kdOf j.desc, i.size, i.bytes, zerOf i.zero, j.desc⟩
      | none => none
    | d => some ⟨kdOf d, i.size, i.bytes, zerOf i.zero, d⟩

def kd (t : TypeId) : Kd := match ty P t with
  | some y => y.kd
  | none => .no
def siz (t : TypeId) : Nat := match ty P t with
  | some y => y.siz
  | none => 0
def byt (t : TypeId) : Nat := match ty P t with
  | some y => y.byt
  | none => 0
def zer (t : TypeId) : AV := match ty P t with
  | some y => y.zer
  | none => .top

/-- The cells of a type's zero value. -/
def zcells (t : TypeId) : Option (List AV) := match zer P t with
  | .top => none
  | .tup _ => none
  | z => some z.cells

def aggK : Kd → Bool
  | .ar _ _ => true
  | .st _ => true
  | _ => false
def aggT (t : TypeId) : Bool := aggK (kd P t)

end

def opd : Operand → Vl
  | .tmp t => match Nat.blt t 250 with
    | true => ⟨(fget t).get⟩
    | false => ⟨fun _ => .top⟩
  | .const v => ⟨fun _ => ofV v⟩
  | .global _ => ⟨fun _ => .top⟩
  | .func f => ⟨fun _ => .fn f [] []⟩

structure Pu where
  put : AV → F → F
def dst : Option Tmp → Pu
  | none => ⟨fun _ fr => fr⟩
  | some d => ⟨(fput d).put⟩

/-! ### Numbers -/
def half : IntKind → Nat
  | .i8 => 128 | .u8 => 256 | .i16 => 32768 | .u16 => 65536 | .i32 => 2147483648 | .u32 => 4294967296 | .i64 => 9223372036854775808 | .u64 => 18446744073709551616

/-- k.wrap n; a small number is itself. -/
def wrapF (k : IntKind) (n : Int) : Int :=
  Int.rec (motive := fun _ => Int) (fun m => Bool.rec (motive := fun _ => Int) (.ofNat m) (k.wrap (.ofNat m)) (Nat.ble (half k) m)) (fun m => k.wrap (.negSucc m)) n

def iBin {β : Type} (f : Nat → Nat → β) (g : Int → Int → β) (a b : Int) : β :=
  Int.rec (motive := fun _ => β) (fun m => Int.rec (motive := fun _ => β) (fun n => f m n) (fun n => g (.ofNat m) (.negSucc n)) b) (fun m => g (.negSucc m) b) a

def iLt (a b : Int) : Bool := iBin (fun m n => Nat.ble (Nat.succ m) n) (fun a b => decide (a < b)) a b
def iEq (a b : Int) : Bool := iBin (fun m n => Nat.beq m n) (fun a b => decide (a = b)) a b
def iAdd (a b : Int) : Int := iBin (fun m n => .ofNat (Nat.add m n)) Int.add a b
def iSub (a b : Int) : Int := iBin (fun m n => Bool.rec (motive := fun _ => Int) (Int.sub (.ofNat m) (.ofNat n)) (.ofNat (Nat.sub m n)) (Nat.ble n m)) Int.sub a b
def iMul (a b : Int) : Int := iBin (fun m n => .ofNat (Nat.mul m n)) Int.mul a b

def sLt (x y : List Nat) : Bool :=
  List.rec (motive := fun _ => List Nat → Bool) (fun y => List.rec (motive := fun _ => Bool) false (fun _ _ _ => true) y)
    (fun a _ ih y => List.rec (motive := fun _ => Bool) false (fun b y _ => sel (ih y) (Nat.ble a b) (Nat.beq a b)) y) x y
def sEq (x y : List Nat) : Bool :=
  List.rec (motive := fun _ => List Nat → Bool) (fun y => List.rec (motive := fun _ => Bool) true (fun _ _ _ => false) y)
    (fun a _ ih y => List.rec (motive := fun _ => Bool) false (fun b y _ => sel (ih y) false (Nat.beq a b)) y) x y
def appN (x y : List Nat) : List Nat := List.rec (motive := fun _ => List Nat) y (fun v _ ih => v :: ih) x
def sLen (l : List Nat) : Nat := List.rec (motive := fun _ => Nat) 0 (fun _ _ n => Nat.succ n) l

def ikEq : IntKind → IntKind → Bool
  | .i64, .i64 => true | .u8, .u8 => true | .u64, .u64 => true | .i32, .i32 => true | .u32, .u32 => true | .i8, .i8 => true | .i16, .i16 => true | .u16, .u16 => true
  | _, _ => false

/-- An operation on two ints of a kind. -/
structure Ib where
  of : Int → Int → (AV → Out) → Out

def two? (k : IntKind) (f : Nat → Nat → Nat) : Ib := ⟨fun a b q => iBin (fun m n => bif? .no (bif? .no (q (.int k (.ofNat (f m n)))) (Nat.ble (half k) n)) (Nat.ble (half k) m)) (fun _ _ => .no) a b⟩

def ib (k : IntKind) : BinOp → Ib
  | .add => ⟨fun a b q => q (.int k (wrapF k (iAdd a b)))⟩
  | .sub => ⟨fun a b q => q (.int k (wrapF k (iSub a b)))⟩
  | .mul => ⟨fun a b q => q (.int k (wrapF k (iMul a b)))⟩
  | .quo => ⟨fun a b q => bif? .no (q (.int k (wrapF k (a.tdiv b)))) (iEq b (.ofNat 0))⟩
  | .rem => ⟨fun a b q => bif? .no (q (.int k (a.tmod b))) (iEq b (.ofNat 0))⟩
  | .and => two? k Nat.land
  | .or => two? k Nat.lor
  | .xor => two? k Nat.xor
  | .andNot => two? k fun m n => Nat.xor m (Nat.land m n)
  | .shl => ⟨fun a b q => iBin (fun m n => q (.int k (wrapF k (.ofNat (Nat.shiftLeft m (min n k.bits)))))) (fun _ _ => .no) a b⟩
  | .shr => ⟨fun a b q => iBin (fun m n => q (.int k (.ofNat (Nat.shiftRight m (min n k.bits))))) (fun _ _ => .no) a b⟩
  | .eql => ⟨fun a b q => q (.bool (iEq a b))⟩
  | .neq => ⟨fun a b q => q (.bool (!iEq a b))⟩
  | .lss => ⟨fun a b q => q (.bool (iLt a b))⟩
  | .leq => ⟨fun a b q => q (.bool (!iLt b a))⟩
  | .gtr => ⟨fun a b q => q (.bool (iLt b a))⟩
  | .geq => ⟨fun a b q => q (.bool (!iLt a b))⟩

def fl (q : AV → Out) (o : Option Nat) : Out := match o with
  | some r => q (.flt .f64 r)
  | none => .no

structure Fb where
  of : Nat → Nat → (AV → Out) → Out
def fb : BinOp → Fb
  | .add => ⟨fun x y q => fl q (FloatKind.f64.format.add x y)⟩
  | .eql => ⟨fun x y q => q (.bool (FloatKind.f64.format.order x y == some .eq))⟩
  | .neq => ⟨fun x y q => q (.bool (FloatKind.f64.format.order x y != some .eq))⟩
  | .lss => ⟨fun x y q => q (.bool (FloatKind.f64.format.order x y == some .lt))⟩
  | .leq => ⟨fun x y q => q (.bool (FloatKind.f64.format.order x y == some .lt || FloatKind.f64.format.order x y == some .eq))⟩
  | .gtr => ⟨fun x y q => q (.bool (FloatKind.f64.format.order x y == some .gt))⟩
  | _ => ⟨fun _ _ _ => .no⟩

structure Sb where
  of : List Nat → List Nat → (AV → Out) → Out
def sb : BinOp → Sb
  | .add => ⟨fun x y q => bif? (q (.str (appN x y))) .no (Nat.ble (Nat.add (sLen x) (sLen y)) 8388608)⟩
  | .eql => ⟨fun x y q => q (.bool (sEq x y))⟩
  | .neq => ⟨fun x y q => q (.bool (!sEq x y))⟩
  | .lss => ⟨fun x y q => q (.bool (sLt x y))⟩
  | .leq => ⟨fun x y q => q (.bool (sel true (sEq x y) (sLt x y)))⟩
  | .gtr => ⟨fun x y q => q (.bool (!sel true (sEq x y) (sLt x y)))⟩
  | .geq => ⟨fun x y q => q (.bool (!sLt x y))⟩
  | _ => ⟨fun _ _ _ => .no⟩

/-- Is an address, a slice nil? -/
def ptrNil (v : AV) (k : Bool → Out) : Out := @AV.rec (fun _ => Out) (fun _ => Out) .no .no .no .no .no (k true) (fun _ _ => .no) (fun _ _ => .no) (fun _ _ _ _ _ => .no) (fun _ _ => .no) (fun _ => .no) (fun _ => .no) (fun _ _ _ _ _ => .no) (fun _ _ => k false) (fun _ _ => .no) .no (fun _ _ _ _ => .no) v
def slcNil (v : AV) (k : Bool → Out) : Out := @AV.rec (fun _ => Out) (fun _ => Out) .no .no .no (k false) (k true) .no (fun _ _ => .no) (fun _ _ => .no) (fun _ _ _ _ _ => .no) (fun _ _ => .no) (fun _ => .no) (fun _ => .no) (fun _ _ _ _ _ => k false) (fun _ _ => .no) (fun _ _ => .no) .no (fun _ _ _ _ => .no) v

def oNo : OpC := .no

variable (P : Program)

/-- == (b: true) and != of two Bools; of an address, a slice, with nil. -/
def eqB (b : Bool) (x y : Vl) : OpC := .rd fun fr _ q => (x.of fr).bool? fun m => (y.of fr).bool? fun n => q (.bool ((m == n) == b))
def eqP (b : Bool) (x y : Vl) : OpC := .rd fun fr _ q => ptrNil (x.of fr) fun m => ptrNil (y.of fr) fun n => bif? (q (.bool ((m == n) == b))) .no (m || n)
def eqN (b : Bool) (x y : Vl) : OpC := .rd fun fr _ q => slcNil (x.of fr) fun m => slcNil (y.of fr) fun n => bif? (q (.bool ((m == n) == b))) .no (m || n)

/-- An operation on two values. -/
def oBin (op : BinOp) (t : TypeId) (a b : Operand) (_ : TypeId) : Program → OpC := fun P =>
  let x := opd a
  let y := opd b
  match op with
  | .shl => .rd fun fr _ q => (x.of fr).int? fun k a => (y.of fr).int? fun _ b => (ib k .shl).of a b q
  | .shr => .rd fun fr _ q => (x.of fr).int? fun k a => (y.of fr).int? fun _ b => (ib k .shr).of a b q
  | op => match kd P t with
    | .i k => .rd fun fr _ q => (x.of fr).int? fun k1 a => (y.of fr).int? fun k2 b => bif? ((ib k op).of a b q) .no (ikEq k k1 && ikEq k k2)
    | .s => .rd fun fr _ q => (x.of fr).str? fun a => (y.of fr).str? fun b => (sb op).of a b q
    | .f .f64 => .rd fun fr _ q => (x.of fr).flt? fun k a => (y.of fr).flt? fun l b => match k, l with
      | .f64, .f64 => (fb op).of a b q
      | _, _ => .no
    | .b => match op with
      | .eql => eqB true x y
      | .neq => eqB false x y
      | _ => .no
    | .p _ => match op with
      | .eql => eqP true x y
      | .neq => eqP false x y
      | _ => .no
    | .sl _ => match op with
      | .eql => eqN true x y
      | .neq => eqN false x y
      | _ => .no
    | _ => .no

def oUn (op : UnOp) (_ : TypeId) (x : Operand) : Program → OpC := fun _ => match op with
  | .not => .rd fun fr _ q => ((opd x).of fr).bool? fun b => q (.bool !b)
  | _ => .no

/-! ### Parts -/
def setCells {α : Type} (l : List α) : Nat → List α → List α
  | _, [] => l
  | i, v :: r => setCells (l.set i v) (i + 1) r

/-- What is stored in one cell: no aggregate. -/
def one? (v : AV) (q : Out) : Out := @AV.rec (fun _ => Out) (fun _ => Out) .no q q q q q (fun _ _ => q) (fun _ _ => .no) (fun _ _ _ _ _ => q) (fun _ _ => .no) (fun _ => q) (fun _ => q) (fun _ _ _ _ _ => q) (fun _ _ => q) (fun _ _ => q) .no (fun _ _ _ _ => .no) v
/-- One part laid into cells. -/
def fill1 (off size : Nat) (v : AV) (cells : List AV) (q : List AV → Out) : Out := match size with
  | 1 => one? v (bif? (q (cells.set off v)) .no (Nat.blt off (len cells)))
  | n => v.agg? fun l => bif? (q (setCells cells off l)) .no (Nat.beq (len l) n && Nat.ble (off + n) (len cells))

def fillF (place : Nat → Option (Nat × Nat)) : List (Nat × AV) → List AV → (List AV → Out) → Out
  | [], cells, q => q cells
  | (i, v) :: rest, cells, q => match place i with
    | none => .no
    | some (off, size) => fill1 off size v cells fun cells => fillF place rest cells q

def getL (l : List AV) (i : Nat) (q : AV → Out) : Out := match nth l i with
  | some v => q v
  | none => .no

def bound (x : Option Vl) (fr : F) (d y : Nat) (q : Nat → Out) : Out := match x with
  | none => q d
  | some v => (v.of fr).nat? fun n => bif? (q n) .no (Nat.ble n y)

/-- Of a slice: where it begins now; .emp: that hangs on room that is not known. -/
def sliceE (n : Nat) (h : Hp) (fr : F) (b o len cap : Nat) (ex : Bool) (lo hi mx : Option Vl) (q : AV → Out) : Out :=
  bound mx fr cap cap fun m => bound hi fr len m fun hh => bound lo fr 0 hh fun l =>
    bif?
      (bif? (bif? (q (.slc b o 0 0 true)) (h.blk? b fun k => bif? (q .emp) (q (.slc b o 0 0 false)) k.gr) (ex || mx.isSome)) .no (Nat.beq hh l))
      (bif? (q (.slc b (Nat.add o (Nat.mul l n)) (Nat.sub hh l) (Nat.sub m l) (ex || mx.isSome))) .no (Nat.ble l m)) (Nat.beq m l)

def optO : Option Operand → Option Vl
  | none => none
  | some x => some (opd x)

def oSlice (t : TypeId) (x : Operand) (lo hi mx : Option Operand) : Program → OpC := fun P =>
  match hi.isNone && mx.isSome with
  | true => .no
  | false => match kd P t with
  | .s => match mx with
    | none => .rd fun fr _ q => ((opd x).of fr).str? fun s => bound (optO hi) fr (sLen s) (sLen s) fun hh => bound (optO lo) fr 0 hh fun l => q (.str ((s.take hh).drop l))
    | some _ => .no
  | .sl e => match siz P e with
    | 0 => .no
    | n => .rd fun fr h q => match (opd x).of fr with
      | .slc b o len cap ex => sliceE n h fr b o len cap ex (optO lo) (optO hi) (optO mx) q
      | .nils => bound (optO mx) fr 0 0 fun _ => bound (optO hi) fr 0 0 fun hh => bound (optO lo) fr 0 hh fun _ => q .nils
      | _ => .no
  | .ar n e => match mx, siz P e with
    | some _, _ => .no
    | none, 0 => .no
    | none, m => .rd fun fr _ q => ((opd x).of fr).ptr? fun b o => bound (optO hi) fr n n fun hh => bound (optO lo) fr 0 hh fun l => q (.slc b (sel o (Nat.add o (Nat.mul l m)) (Nat.beq n l)) (Nat.sub hh l) (Nat.sub n l) true)
  | _ => .no

def bytesOf (l : List AV) (q : List Nat → Out) : Out :=
  List.rec (motive := fun _ => (List Nat → Out) → Out) (fun q => q []) (fun v _ ih q => v.int? fun k n => match k with
    | .u8 => Int.rec (motive := fun _ => Out) (fun m => bif? (ih fun r => q (m :: r)) .no (Nat.ble m 255)) (fun _ => .no) n
    | _ => .no) l q

/-- The row b.o.n, if it lies there. -/
def Hp.row? (h : Hp) (b o n : Nat) (q : List AV → Out) : Out := h.blk? b fun k => bif? (q (Cs.row n o k.cs)) .no (Nat.ble (Nat.add o n) k.size)

def byteAV (n : Nat) : AV := .int .u8 (.ofNat n)

def oConv (src t : TypeId) (x : Operand) : Program → OpC := fun P =>
  match kd P src, kd P t with
  | .i _, .i k => .rd fun fr _ q => ((opd x).of fr).int? fun _ n => q (.int k (wrapF k n))
  | .sl e, .s => match kd P e with
    | .i .u8 => .rd fun fr h q => match (opd x).of fr with
      | .slc b o len _ _ => h.row? b o len fun l => bytesOf l fun s => q (.str s)
      | .nils => q (.str [])
      | _ => .no
    | _ => .no
  | .s, .sl e => match kd P e with
    | .i .u8 => .al fun id fr q => ((opd x).of fr).str? fun s => q (.slc id 0 (sLen s) (sLen s) false) (mkBlk 1 true true (s.map byteAV))
    | _ => .no
  | _, _ => .no

structure Vs where
  of : F → List AV
def opds : List Operand → Vs
  | [] => ⟨fun _ => []⟩
  | x :: l => ⟨fun fr => (opd x).of fr :: (opds l).of fr⟩
structure Ps where
  of : F → List (Nat × AV)
def parts : List (Nat × Operand) → Ps
  | [] => ⟨fun _ => []⟩
  | (i, x) :: l => ⟨fun fr => (i, (opd x).of fr) :: (parts l).of fr⟩

/-! ### Slices that grow -/
def upTo (m : Option Nat) (n : Nat) : Nat := match m with
  | none => n
  | some m => Nat.min n m
/-- What is appended or copied: the first n elements. -/
def src (n : Nat) (h : Hp) (x : AV) (m : Option Nat) (q : Nat → List AV → Out) : Out :=
  match x with
  | .nils => q 0 []
  | .emp => q 0 []
  | .slc b o len _ _ => bif? (q 0 []) (h.row? b o (Nat.mul (upTo m len) n) fun l => q (upTo m len) l) (Nat.beq (upTo m len) 0)
  | .str s => match n with
    | 1 => q (upTo m (sLen s)) ((s.take (upTo m (sLen s))).map byteAV)
    | _ => .no
  | _ => .no

/-- A new row. -/
def regrow (n : Nat) (sb : Bool) (h : Hp) (len : Nat) (cells : List AV) (q : AV → Hp → Out) : Out :=
  h.push (mkBlk n true sb cells) (q (.slc h.next 0 len len false))
/-- The old row b is let go where it may be the new one. -/
def drop? (h : Hp) (b : Nat) (ex gr : Bool) : Hp := sel h (sel (h.set b .no) h gr) ex
/-- May a row be moved? -/
def moves (n len cap o : Nat) (ex : Bool) (k : Blk) : Bool := ex || !k.gr || (Nat.beq k.es n && Nat.beq (o + cap * n) k.size && Nat.ble len cap)

def small (r byt : Nat) : Bool := Nat.ble r 1048576 && Nat.ble byt 65536

/-- A row of r elements more behind a slice. -/
def grow (n byt : Nat) (h : Hp) (s : AV) (r : Nat) (cells : List AV) (q : AV → Hp → Out) : Out := match s with
    | .nils => bif? (q .nils h) (bif? (regrow n false h r cells q) .no (small r byt)) (Nat.beq r 0)
    | .emp => bif? (q .emp h) .no (Nat.beq r 0)
    | .slc b o len cap ex => h.blk? b fun k =>
      bif?
        (bif? (q (.slc b o (len + r) cap ex) (h.set b (.of (k.wth (Cs.puts cells (o + len * n) k.cs))))) .no (Nat.ble (o + (len + r) * n) k.size))
        (bif? (regrow n k.sb (drop? h b ex k.gr) (len + r) (appL (Cs.row (len * n) o k.cs) cells) q) .no
          (Nat.ble (o + len * n) k.size && small (len + r) byt && moves n len cap o ex k))
        (Nat.ble (len + r) cap)
    | _ => .no

def appendTo (n byt : Nat) (h : Hp) (s x : AV) (q : AV → Hp → Out) : Out := src n h x none fun r cells => grow n byt h s r cells q

def copyTo (n : Nat) (h : Hp) (s x : AV) (q : AV → Hp → Out) : Out :=
  match s with
  | .nils => match x with
    | .nils | .emp | .slc .. => q (.int .i64 (.ofNat 0)) h
    | .str _ => q (.int .i64 (.ofNat 0)) h
    | _ => .no
  | .slc b o len _ _ => src n h x (some len) fun r cells => h.blk? b fun k =>
    bif? (q (.int .i64 (.ofNat r)) (h.set b (.of (k.wth (Cs.puts cells o k.cs))))) .no (Nat.ble (o + r * n) k.size)
  | _ => .no

/-- The one value that a row holds. -/
def same : List AV → Option AV
  | [v] => some v
  | .int k (.ofNat 0) :: l => match l.all (fun v => match v with | .int k' (.ofNat 0) => ikEq k k' | _ => false) with
    | true => some (.int k (.ofNat 0))
    | false => none
  | _ => none

def clearAll (n : Nat) (z : List AV) (h : Hp) (s : AV) (q : AV → Hp → Out) : Out :=
  match s with
  | .nils => q (.tup []) h
  | .slc b o len _ _ => h.blk? b fun k => match same z, Nat.beq o 0 && Nat.beq (len * n) k.size with
    | some v, true => match blank k.size n v with
      | some c => q (.tup []) (h.set b (.of (k.wth c)))
      | none => .no
    | _, _ => bif? (q (.tup []) (h.set b (.of (k.wth (Cs.puts (List.replicate len z).flatten o k.cs))))) .no (Nat.ble (o + len * n) k.size)
  | _ => .no

/-- A slice's length. -/
def slen (v : AV) (k : Nat → Out) : Out := @AV.rec (fun _ => Out) (fun _ => Out) .no .no .no (k 0) (k 0) .no (fun _ _ => .no) (fun _ _ => .no) (fun _ _ _ _ _ => .no) (fun _ _ => .no) (fun _ => .no) (fun _ => .no) (fun _ _ n _ _ => k n) (fun _ _ => .no) (fun _ _ => .no) .no (fun _ _ _ _ => .no) v

/-- The cells of a zero element of m cells. -/
def zelem (e : TypeId) : Option (Nat × List AV) := match siz P e, zcells P e with
  | 0, _ => none
  | _, none => none
  | m, some z => match Nat.beq (len z) m with
    | true => some (m, z)
    | false => none
def oBuiltin (b : Builtin) (ts : List TypeId) (xs : List Operand) : Program → OpC := fun P =>
  match b, xs, ts with
  | .len, [x], t :: _ => match kd P t with
    | .s => .rd fun fr _ q => ((opd x).of fr).str? fun s => q (.int .i64 (.ofNat (sLen s)))
    | .sl _ => .rd fun fr _ q => slen ((opd x).of fr) fun n => q (.int .i64 (.ofNat n))
    | _ => .no
  | .min, [x, y], _ => .rd fun fr _ q => ((opd x).of fr).int? fun k a => ((opd y).of fr).int? fun _ b => q (.int k (sel b a (iLt b a)))
  | .max, [x, y], _ => .rd fun fr _ q => ((opd x).of fr).int? fun k a => ((opd y).of fr).int? fun _ b => q (.int k (sel b a (iLt a b)))
  | .append, [x, y], [t, u] => match kd P t, kd P u with
    | .sl e, .sl _ => match zelem P e with
      | none => .no
      | some (m, _) => .wr fun _ fr h q => appendTo m (byt P e) h ((opd x).of fr) ((opd y).of fr) q
    | .sl e, .s => match zelem P e with
      | none => .no
      | some (m, _) => .wr fun _ fr h q => appendTo m (byt P e) h ((opd x).of fr) ((opd y).of fr) q
    | _, _ => .no
  | .copy, [x, y], t :: _ => match kd P t with
    | .sl e => match siz P e with
      | 0 => .no
      | n => .wr fun _ fr h q => copyTo n h ((opd x).of fr) ((opd y).of fr) q
    | _ => .no
  | .clear, [x], t :: _ => match kd P t with
    | .sl e => match zelem P e with
      | none => .no
      | some (m, z) => .wr fun _ fr h q => clearAll m z h ((opd x).of fr) q
    | _ => .no
  | _, _, _ => .no

def oMove (x : Operand) : Program → OpC := fun _ => .rd fun fr _ q => q ((opd x).of fr)
def oPick (c a b : Operand) : Program → OpC := fun _ => .rd fun fr _ q => ((opd c).of fr).bool? fun t => q (sel ((opd a).of fr) ((opd b).of fr) t)
def oBuild (t : TypeId) (ps : Array (Nat × Operand)) : Program → OpC := fun P => match kd P t, zcells P t with
  | .st fs, some z => match fs.all fun p => (ty P p.2).isSome with
    | true => .rd fun fr _ q => fillF (fun i => match nth fs i with | some p => some (p.1, siz P p.2) | none => none) ((parts ps.toList).of fr) z fun l => q (.agg l)
    | false => .no
  | .ar _ e, some z => match siz P e with
    | 0 => .no
    | n => .rd fun fr _ q => fillF (fun i => some (i * n, n)) ((parts ps.toList).of fr) z fun l => q (.agg l)
  | _, _ => .no
def oNilCheck (x : Operand) : Program → OpC := fun _ => .rd fun fr _ q =>
  @AV.rec (fun _ => Out) (fun _ => Out) .no .no .no .no .no .no (fun _ _ => .no) (fun _ _ => .no) (fun f a b _ _ => q (.fn f a b)) (fun _ _ => .no) (fun _ => .no) (fun _ => .no) (fun _ _ _ _ _ => .no) (fun b o => q (.ptr b o)) (fun _ _ => .no) .no (fun _ _ _ _ => .no) ((opd x).of fr)
def oFieldAddr (t : TypeId) (x : Operand) (f : Nat) : Program → OpC := fun P => match kd P t with
  | .st fs => match nth fs f with
    | some (off, e) => match siz P e with
      | 0 => .no
      | _ => .rd fun fr _ q => ((opd x).of fr).ptr? fun b o => q (.ptr b (Nat.add o off))
    | none => .no
  | _ => .no
/-- A part of an aggregate. -/
def part (e : TypeId) (l : List AV) (off : Nat) (q : AV → Out) : Out := match kd P e with
  | .no => .no
  | y => match aggK y with
    | true => bif? (q (.agg (takeL (dropL l off) (siz P e)))) .no (Nat.ble (off + siz P e) (len l))
    | false => getL l off q
def oField (t : TypeId) (x : Operand) (f : Nat) : Program → OpC := fun P => match kd P t with
  | .st fs => match nth fs f with
    | some (off, e) => .rd fun fr _ q => ((opd x).of fr).agg? fun l => part P e l off q
    | none => .no
  | _ => .no
/-- A slice's place and length. -/
def AV.slc? (k : Nat → Nat → Nat → Out) (v : AV) : Out := @AV.rec (fun _ => Out) (fun _ => Out) .no .no .no .no .no .no (fun _ _ => .no) (fun _ _ => .no) (fun _ _ _ _ _ => .no) (fun _ _ => .no) (fun _ => .no) (fun _ => .no) (fun b o n _ _ => k b o n) (fun _ _ => .no) (fun _ _ => .no) .no (fun _ _ _ _ => .no) v
def oIndexAddr (t : TypeId) (x i : Operand) : Program → OpC := fun P => match kd P t with
  | .ar len e => match siz P e with
    | 0 => .no
    | m => .rd fun fr _ q => ((opd x).of fr).ptr? fun b o => ((opd i).of fr).nat? fun n => bif? .no (q (.ptr b (Nat.add o (Nat.mul n m)))) (Nat.ble len n)
  | .sl e => match siz P e with
    | 0 => .no
    | m => .rd fun fr _ q => ((opd x).of fr).slc? fun b o len => ((opd i).of fr).nat? fun n => bif? .no (q (.ptr b (Nat.add o (Nat.mul n m)))) (Nat.ble len n)
  | _ => .no
def oIndex (t : TypeId) (x i : Operand) : Program → OpC := fun P => match kd P t with
  | .ar len e => match siz P e with
    | 0 => .no
    | m => .rd fun fr _ q => ((opd x).of fr).agg? fun l => ((opd i).of fr).nat? fun n => bif? .no (part P e l (n * m) q) (Nat.ble len n)
  | .s => .rd fun fr _ q => ((opd x).of fr).str? fun s => ((opd i).of fr).nat? fun n => match nth s n with
    | some c => q (.int .u8 (.ofNat c))
    | none => .no
  | _ => .no
def oExtract (x : Operand) (i : Nat) : Program → OpC := fun _ => .rd fun fr _ q => ((opd x).of fr).tup? fun l => getL l i q
def oMakeFunc (f : Go.Fn) (a b : Array Operand) : Program → OpC := fun _ => match f with
  | .func f => .rd fun fr _ q => q (.fn f ((opds a.toList).of fr) ((opds b.toList).of fr))
  | _ => .no
def oLoad (t : TypeId) (x : Operand) : Program → OpC := fun P => match kd P t with
  | .no => .no
  | y => match aggK y with
    | true => .rd fun fr h q => ((opd x).of fr).ptr? fun b o => h.row? b o (siz P t) fun l => q (.agg l)
    | false => .rd fun fr h q => ((opd x).of fr).ptr? fun b o => h.blk? b fun k => bif? .no (q (Cs.get o k.cs)) (Nat.ble k.size o)
def oStore (t : TypeId) (x y : Operand) : Program → OpC := fun P => match kd P t with
  | .no => .no
  | z => match aggK z with
    | true => .wr fun _ fr h q => ((opd x).of fr).ptr? fun b o => ((opd y).of fr).agg? fun l => h.blk? b fun k => bif? (q (.tup []) (h.set b (.of (k.wth (Cs.puts l o k.cs))))) .no (Nat.beq (len l) (siz P t) && Nat.ble (o + siz P t) k.size)
    | false => match siz P t with
      | 1 => .wr fun _ fr h q => ((opd x).of fr).ptr? fun b o => h.blk? b fun k => bif? .no (one? ((opd y).of fr) (q (.tup []) (h.set b (.of (k.wth (Cs.put o ((opd y).of fr) k.cs)))))) (Nat.ble k.size o)
      | _ => .no
def oAlloc (e : TypeId) : Program → OpC := fun P => match zcells P e with
  | some z => .al fun id _ q => q (.ptr id 0) (mkBlk (siz P e) false false z)
  | none => .no
def oBox (e : TypeId) (x : Operand) : Program → OpC := fun P => match kd P e with
  | .no => .no
  | z => match aggK z with
    | true => .al fun id fr q => ((opd x).of fr).agg? fun l => q (.ptr id 0) (mkBlk (siz P e) false false l)
    | false => .al fun id fr q => one? ((opd x).of fr) (q (.ptr id 0) (mkBlk (siz P e) false false [(opd x).of fr]))
def oBuildSlice (t : TypeId) (n : Nat) (ps : Array (Nat × Operand)) : Program → OpC := fun P => match kd P t with
  | .sl e => match zelem P e with
    | none => .no
    | some (m, z) => match Nat.ble (n * m) 65536 with
      | true => .al fun id fr q => fillF (fun i => some (i * m, m)) ((parts ps.toList).of fr) (List.replicate n z).flatten fun l => q (.slc id 0 n n true) (mkBlk m false false l)
      | false => .no
  | _ => .no
def oMakeSlice (t : TypeId) (l c : Operand) : Program → OpC := fun P => match kd P t with
  | .sl e => match zelem P e with
    | none => .no
    | some (m, z) => match same z with
      | none => .no
      | some v => .al fun id fr q => ((opd l).of fr).nat? fun l => ((opd c).of fr).nat? fun c =>
        bif? (match blank (Nat.mul c m) m v with | some cs => q (.slc id 0 l c true) ⟨Nat.mul c m, m, false, false, cs⟩ | none => .no) .no (Nat.ble l c && Nat.ble c 1048576 && Nat.ble (byt P e) 65536)
  | _ => .no
def oCall (c : Call) : Program → OpC := fun P => match c with
  | ⟨.value (.func g), xs, _⟩ => .wr fun ca fr h q => ca.call g ((opds xs.toList).of fr) h q
  | ⟨.value f, xs, _⟩ => .wr fun ca fr h q => ((opd f).of fr).fn? fun g a b => ca.call g (a ++ (opds xs.toList).of fr ++ b) h q
  | ⟨.builtin b, xs, ts⟩ => oBuiltin b ts.toList xs.toList P
  | _ => .no
def oDefer (c : Call) : Program → OpC := fun _ => match c with
  | ⟨.value f, xs, _⟩ => .df fun fr q => ((opd f).of fr).fn? fun g a b => q (.fn g (a ++ (opds xs.toList).of fr) b)
  | _ => .no

def oNone : Program → OpC := fun _ => .no

def opC (o : Op) : Program → OpC := @Op.rec (fun _ => Program → OpC) oMove oMove oPick oAlloc oBox oBuild oBuildSlice (fun _ _ _ _ => oNone) oLoad oStore (fun _ => oNone) (fun _ => oNone) oNilCheck oBin oUn oConv (fun _ _ => oNone) (fun _ _ => oNone) oMakeFunc (fun _ _ => oNone) (fun _ _ => oNone) oMakeSlice oSlice oFieldAddr oField oIndexAddr oIndex (fun _ _ _ _ => oNone) (fun _ _ _ _ => oNone) (fun _ _ _ => oNone) (fun _ _ _ _ => oNone) (fun _ _ => oNone) (fun _ _ => oNone) (fun _ => oNone) (fun _ _ _ _ => oNone) oExtract oCall (fun _ => oNone) oDefer (fun _ => oNone) (fun _ _ => oNone) (fun _ _ _ => oNone) (fun _ _ => oNone) o

/-! ### A region in the order of the text -/
def guardV (ops : List Oper) (j : Nat) : Vl := match ops[j]? with
  | some q => match q.dst with
    | some d => opd (.tmp d)
    | none => ⟨fun _ => .top⟩
  | none => ⟨fun _ => .top⟩

/-- Is it wanted? -/
structure Wt where
  of : F → Out → Out → Out
def wants (ops : List Oper) (g : Option (Nat × Bool)) : Wt := match g with
  | none => ⟨fun _ x _ => x⟩
  | some (j, want) => ⟨fun fr x y => match (guardV ops j).of fr with
    | .bool b => bif? x y (b == want)
    | .tup [] => y
    | _ => .no⟩

def dstOk (nt : Nat) : Option Tmp → Bool
  | none => true
  | some d => Nat.blt d nt

def oper (nt : Nat) (ops : List Oper) (o : Oper) (rest : Cm) : Cm :=
  match dstOk nt o.dst with
  | false => ⟨fun _ _ _ => .no⟩
  | true => match opC o.op P, o.guard with
    | .rd f, none => ⟨fun ca fr h => f fr h fun v => rest.run ca ((dst o.dst).put v fr) h⟩
    | .al f, none => ⟨fun ca fr h => f h.next fr fun v k => h.push k fun h' => rest.run ca ((dst o.dst).put v fr) h'⟩
    | .wr f, none => ⟨fun ca fr h => f ca fr h fun v h => rest.run ca ((dst o.dst).put v fr) h⟩
    | .rd f, g => ⟨fun ca fr h => (wants ops g).of fr (f fr h fun v => rest.run ca ((dst o.dst).put v fr) h) (rest.run ca ((dst o.dst).put (.tup []) fr) h)⟩
    | .al f, g => ⟨fun ca fr h => (wants ops g).of fr (f h.next fr fun v k => h.push k fun h' => rest.run ca ((dst o.dst).put v fr) h') (rest.run ca ((dst o.dst).put (.tup []) fr) h)⟩
    | .wr f, g => ⟨fun ca fr h => (wants ops g).of fr (f ca fr h fun v h => rest.run ca ((dst o.dst).put v fr) h) (rest.run ca ((dst o.dst).put (.tup []) fr) h)⟩
    | .df f, none => ⟨fun ca fr h => f fr fun v => match (fget 255).get fr with
      | .tup [] => rest.run ca ((dst o.dst).put (.tup []) ((fput 255).put v fr)) h
      | _ => .no⟩
    | _, _ => ⟨fun _ _ _ => .no⟩

def opers (nt : Nat) (ops : List Oper) : List Oper → Cm
  | [] => ⟨fun _ => .nrm⟩
  | o :: l => oper P nt ops o (opers nt ops l)

/-! ### A region whose order is open -/
inductive Cl where
  | p | r | a | w | d

/-- Does a reader look at memory? -/
def looks (o : Op) : Bool := match o with
  | .load .. => true
  | .convert s t _ => match kd P s, kd P t with
    | .sl _, .s => true
    | _, _ => false
  | .slice t .. => match kd P t with
    | .sl _ => true
    | _ => false
  | _ => false

/-- Does it look at memory, make a block, turn memory? -/
def cls (o : Op) : Cl := match opC o P with
  | .al _ => .a
  | .wr _ => .w
  | .rd _ => match looks P o with
    | true => .r
    | false => .p
  | _ => .d

def isW : Cl → Bool
  | .w => true
  | _ => false
def isR : Cl → Bool
  | .r => true
  | _ => false
def isA : Cl → Bool
  | .a => true
  | _ => false

/-- The operations that must have come up, as a row of bits. -/
def befs : List Oper → List Nat → List Nat
  | [], acc => acc
  | o :: l, acc => befs l (acc ++ [o.after.toList.foldl (fun s e => match Region.binds .any e with | true => s ||| 2 ^ e.on ||| acc.getD e.on 0 | false => s) 0])

def tmpsOf (l : List Operand) : List Tmp := l.filterMap fun | .tmp t => some t | _ => none

structure Inf where
  i : Nat
  o : Oper
  cl : Cl
  bef : Nat

def infs (ops : List Oper) : List Inf :=
  let b := befs ops []
  ops.zipIdx.map fun (o, i) => ⟨i, o, cls P o.op, b.getD i 0⟩

def guardOk (ops : List Oper) (i bef : Nat) : Option (Nat × Bool) → Bool
  | none => true
  | some (g, _) => Nat.blt g i && bef.testBit g && match ops[g]? with
    | some q => q.dst.isSome
    | none => false
def guardT (ops : List Oper) : Option (Nat × Bool) → List Tmp
  | none => []
  | some (g, _) => match ops[g]? with
    | some q => q.dst.toList
    | none => []

/-- What the proof asks of a region whose order is open. -/
def okD (ops : List Oper) (l : List Inf) : Bool :=
  l.all fun x =>
    x.o.after.toList.all (fun e => !Region.binds .any e || Nat.blt e.on x.i) &&
    guardOk ops x.i x.bef x.o.guard &&
    (match x.cl with | .d => false | _ => true) &&
    (match x.cl with | .r => x.o.dst.isSome | _ => true) &&
    l.all fun y =>
      -- writers come in turn
      (!(isW x.cl && isW y.cl) || !Nat.blt x.i y.i || y.bef.testBit x.i) &&
      -- no two write one slot
      (Nat.beq x.i y.i || match x.o.dst, y.o.dst with | some d, some e => !Nat.beq d e | _, _ => true) &&
      -- who looks at a slot waits for its writer, or the writer for him
      (match y.o.dst with
       | none => true
       | some d => !(tmpsOf x.o.op.operands.toList ++ guardT ops x.o.guard).contains d ||
          ((Nat.beq x.i y.i && !isR x.cl) || (Nat.blt y.i x.i && x.bef.testBit y.i) || (Nat.blt x.i y.i && y.bef.testBit x.i && !isR x.cl)))

/-- Are they surely one value? -/
def eqb1 (x y : AV) : Bool := match x, y with
  | .int k a, .int l b => ikEq k l && iEq a b
  | .bool a, .bool b => a == b
  | .ptr a b, .ptr c d => Nat.beq a c && Nat.beq b d
  | .slc a b c d e, .slc a' b' c' d' e' => Nat.beq a a' && Nat.beq b b' && Nat.beq c c' && Nat.beq d d' && (e == e')
  | .str a, .str b => sEq a b
  | .nilp, .nilp => true
  | .nils, .nils => true
  | .nilf, .nilf => true
  | .emp, .emp => true
  | .flt .f64 a, .flt .f64 b => Nat.beq a b
  | .fn f [] [], .fn g [] [] => Nat.beq f g
  | _, _ => false
def eqbL : List AV → List AV → Bool
  | [], [] => true
  | x :: a, y :: b => eqb1 x y && eqbL a b
  | _, _ => false
def eqb (x y : AV) : Bool := match x, y with
  | .agg a, .agg b => eqbL a b
  | x, y => eqb1 x y

def rdOf : OpC → F → Hp → (AV → Out) → Out
  | .rd f => f
  | _ => fun _ _ _ => .no

/-- The reader would have read the same before the last n writers. -/
def past (f : F → Hp → (AV → Out) → Out) (fr : F) (v : AV) (q : Out) : Nat → List Hp → Out
  | 0, _ => q
  | _ + 1, [] => .no
  | n + 1, h :: hs => f fr h fun u => bif? (past f fr v q n hs) .no (eqb u v)

/-- These readers would read the same now. -/
def later (ops : List Oper) (fr : F) (h : Hp) (q : Out) : List Inf → Out
  | [] => q
  | x :: l => (wants ops x.o.guard).of fr (rdOf (opC x.o.op P) fr h fun u => bif? (later ops fr h q l) .no (eqb u ((opd (.tmp (x.o.dst.getD 0))).of fr))) (later ops fr h q l)

def countW (l : List Inf) (x : Inf) : Nat := (l.filter fun y => isW y.cl && Nat.blt y.i x.i).length
def countB (l : List Inf) (x : Inf) : Nat := (l.filter fun y => isW y.cl && x.bef.testBit y.i).length
def countA (l : List Inf) (x : Inf) : Nat := (l.filter fun y => isA y.cl && Nat.blt y.i x.i).length

def Hp.at (h : Hp) (id : Nat) (k : Blk) : Hp := ⟨h.next, (puts Bo 8 id).put (.of k) h.t⟩

def operD (nt : Nat) (ops : List Oper) (all : List Inf) (x : Inf) (rest : Dm) : Dm :=
  match dstOk nt x.o.dst with
  | false => ⟨fun _ _ _ _ _ => .no⟩
  | true => match opC x.o.op P with
    | .rd f => match isR x.cl with
      | false => ⟨fun ca b hs fr h => (wants ops x.o.guard).of fr (f fr h fun v => rest.run ca b hs ((dst x.o.dst).put v fr) h) (rest.run ca b hs ((dst x.o.dst).put (.tup []) fr) h)⟩
      | true => ⟨fun ca b hs fr h => (wants ops x.o.guard).of fr (f fr h fun v => past f fr v (rest.run ca b hs ((dst x.o.dst).put v fr) h) (countW all x - countB all x) hs) (rest.run ca b hs ((dst x.o.dst).put (.tup []) fr) h)⟩
    | .al f => ⟨fun ca b hs fr h => (wants ops x.o.guard).of fr (f (Nat.add b (countA all x)) fr fun v k => rest.run ca b hs ((dst x.o.dst).put v fr) (h.at (Nat.add b (countA all x)) k)) (rest.run ca b hs ((dst x.o.dst).put (.tup []) fr) h)⟩
    | .wr f => ⟨fun ca b hs fr h => (wants ops x.o.guard).of fr
        (f ca fr h fun v h' => later P ops ((dst x.o.dst).put v fr) h' (rest.run ca b (h :: hs) ((dst x.o.dst).put v fr) h') (all.filter fun y => isR y.cl && Nat.blt y.i x.i && !x.bef.testBit y.i))
        (rest.run ca b (h :: hs) ((dst x.o.dst).put (.tup []) fr) h)⟩
    | _ => ⟨fun _ _ _ _ _ => .no⟩

def opersD (nt : Nat) (ops : List Oper) (all : List Inf) : List Inf → Dm
  | [] => ⟨fun _ _ _ => .nrm⟩
  | x :: l => operD P nt ops all x (opersD nt ops all l)

def drawn (nt : Nat) (ops : List Oper) : Cm :=
  match okD ops (infs P ops) with
  | true => ⟨fun ca fr h => bif? ((opersD P nt ops (infs P ops) (infs P ops)).run ca h.next [] fr ⟨Nat.add h.next ((infs P ops).filter fun y => isA y.cl).length, h.t⟩) .no (Nat.ble (Nat.add h.next ((infs P ops).filter fun y => isA y.cl).length) 65536)⟩
  | false => ⟨fun _ _ _ => .no⟩

def region (nt : Nat) (ops : List Oper) (draw : Bool) : Cm := match draw with
  | false => opers P nt ops ops
  | true => drawn P nt ops

/-! ### Code -/
def Out.thn (k : F → Hp → Out) (o : Out) : Out := Out.rec (motive := fun _ => Out) .no k .exi .ret o
def Out.cat (id : Nat) (o : Out) : Out := Out.rec (motive := fun _ => Out) .no .nrm (fun i fr h => bif? (.nrm fr h) (.exi i fr h) (Nat.beq i id)) .ret o

def loopN (c : Cm) (n : Nat) : Cm := Nat.rec (motive := fun _ => Cm) ⟨fun _ _ _ => .no⟩ (fun _ ih => ⟨fun ca fr h => (c.run ca fr h).thn (ih.run ca)⟩) n

def code (nt lf : Nat) : Code → Cm
  | .skip => ⟨fun _ => .nrm⟩
  | .label _ => ⟨fun _ => .nrm⟩
  | .region _ ops draw => region P nt ops.toList draw
  | .seq a b => ⟨fun ca fr h => ((code nt lf a).run ca fr h).thn ((code nt lf b).run ca)⟩
  | .cond c a b => ⟨fun ca fr h => ((opd c).of fr).bool? fun t => bif? ((code nt lf a).run ca fr h) ((code nt lf b).run ca fr h) t⟩
  | .block id a => ⟨fun ca fr h => ((code nt lf a).run ca fr h).cat id⟩
  | .loop a => loopN (code nt lf a) lf
  | .scope a => code nt lf a
  | .exit id => ⟨fun _ => .exi id⟩
  | .ret => ⟨fun _ => .ret⟩
  | _ => ⟨fun _ _ _ => .no⟩

def args (l : List AV) (i : Nat) (fr : F) : F := List.rec (motive := fun _ => Nat → F → F) (fun _ fr => fr) (fun v _ ih i fr => ih (Nat.succ i) ((fput i).put v fr)) l i fr

/-- What a function hands back. -/
structure Rs where
  of : F → Hp → (AV → Out) → Out
def res1 : ResultVar → Rs
  | .tmp t => ⟨fun fr _ q => q ((opd (.tmp t)).of fr)⟩
  | .cell a t => match opC (.load t (.tmp a)) P with
    | .rd f => ⟨f⟩
    | _ => ⟨fun _ _ _ => .no⟩
structure Rl where
  of : F → Hp → (List AV → Out) → Out
def ress : List ResultVar → Rl
  | [] => ⟨fun _ _ q => q []⟩
  | r :: l => ⟨fun fr h q => (res1 P r).of fr h fun v => (ress l).of fr h fun vs => q (v :: vs)⟩
def res : List ResultVar → Rs
  | [r] => res1 P r
  | l => ⟨fun fr h q => (ress P l).of fr h fun vs => q (.tup vs)⟩

def leave (hl : FuncId → Bool) (l : List ResultVar) (k : AV → Hp → Out) (fr : F) (h : Hp) : Out := match (fget 255).get fr with
  | .tup [] => (res P l).of fr h fun v => k v h
  | .fn g a b => bif? ((res P l).of fr h fun v => k v h) .no (hl g && Nat.beq (Nat.add (len a) (len b)) 1)
  | _ => .no

def Out.back (k : F → Hp → Out) (o : Out) : Out := Out.rec (motive := fun _ => Out) .no k (fun _ _ _ => .no) k o

structure Fc where
  of : Ca → List AV → Hp → (AV → Hp → Out) → Out

def func (hl : FuncId → Bool) (lf : Nat) (fn : Func) : Fc := match fn.body with
  | none => ⟨fun _ _ _ _ => .no⟩
  | some c => match Nat.ble fn.ntmps 250 with
    | true => ⟨fun ca l h k => bif? (((code P fn.ntmps lf c).run ca (args l 0 (F.all (.tup []))) h).back (leave P hl fn.results.toList k)) .no (Nat.ble (len l) fn.ntmps)⟩
    | false => ⟨fun _ _ _ _ => .no⟩

def fcs : List (List Func) := chunks 64 P.funcs.toList

def fnAt (hl : FuncId → Bool) (pr : FuncId → Option Fc) (lf : Nat) (f : FuncId) : Fc := match pr f with
  | some g => g
  | none => match nth2 (fcs P) f with
    | none => ⟨fun _ _ _ _ => .no⟩
    | some fn => func P hl lf fn

def calls (hl : FuncId → Bool) (pr : FuncId → Option Fc) (lf : Nat) (d : Nat) : Ca := Nat.rec (motive := fun _ => Ca) ⟨fun _ _ _ _ => .no⟩ (fun _ ih => ⟨fun f l h k => (fnAt P hl pr lf f).of ih l h k⟩) d

def h0 : Hp := ⟨0, QT.all .no 8⟩

end
end Go.Proofs.YtlkbahknmbgjmaaGreat.Ev
