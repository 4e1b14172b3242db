/-
  Memory that changes: which blocks a call may turn, and what a block holds. What the functions of the page store come to, said on lists of bytes: no memory and no Go in it. Numbers as bytes, there and back. The check of bytes, and a page as it lies on the disk. A page's parts, as they are read back.
  No conditions.
-/
import Derived.Below
import Derived.Laws.Rows
import Derived.Laws.AppendOwn
import Derived.Deep.Draws
namespace Go.Proofs.YtlkbahknmbgjmaaGreat
open Go Go.RowKit

/-- w' is w but for the blocks of F, and for what is new. -/
structure Touch (F : List Nat) (w w' : World) : Prop where
  os : w'.os = w.os
  tape : w'.tape = w.tape
  output : w'.output = w.output
  size : w.heap.size ≤ w'.heap.size
  block : ∀ k, k < w.heap.size → k ∉ F → w'.heap[k]? = w.heap[k]?

theorem Touch.refl (F : List Nat) (w : World) : Touch F w w := ⟨rfl, rfl, rfl, Nat.le_refl _, fun _ _ _ => rfl⟩

/-- Two steps; what the second may turn is what the first might, or new. -/
theorem Touch.trans {F G : List Nat} {a b c : World} (h : Touch F a b) (g : Touch G b c) (hG : ∀ k ∈ G, k ∈ F ∨ a.heap.size ≤ k) : Touch F a c :=
  ⟨g.os.trans h.os, g.tape.trans h.tape, g.output.trans h.output, Nat.le_trans h.size g.size, fun k hk hF =>
    (g.block k (Nat.lt_of_lt_of_le hk h.size) fun hm => by rcases hG k hm with h1 | h1; exact hF h1; omega).trans (h.block k hk hF)⟩

theorem Touch.same {F : List Nat} {a b c : World} (h : Touch F a b) (g : Touch F b c) : Touch F a c := h.trans g fun _ hk => .inl hk

theorem Touch.mono {F G : List Nat} {a b : World} (h : Touch F a b) (hF : ∀ k ∈ F, k ∈ G ∨ a.heap.size ≤ k) : Touch G a b :=
  ⟨h.os, h.tape, h.output, h.size, fun k hk hG => h.block k hk fun hm => by rcases hF k hm with h1 | h1; exact hG h1; omega⟩

theorem Touch.of_below {F : List Nat} {a b : World} (h : Below a.heap.size a b) : Touch F a b := ⟨h.os, h.tape, h.output, h.size, fun k hk _ => h.block k hk⟩

/-- What is new alone was turned: nothing that there was. -/
theorem Touch.below {F : List Nat} {a b : World} {B : Nat} (h : Touch F a b) (hB : B ≤ a.heap.size) (hF : ∀ k ∈ F, B ≤ k) : Below B a b :=
  ⟨h.os, h.tape, h.output, h.size, fun k hk => h.block k (by omega) fun hm => by have := hF k hm; omega⟩

theorem Touch.drew {F : List Nat} {a b : World} (h : Touch F a b) : Touch F a b.drew := ⟨h.os, h.tape, h.output, h.size, h.block⟩

theorem Touch.alloc {F : List Nat} {a b : World} (h : Touch F a b) (o : Obj) : Touch F a (b.alloc o) :=
  h.same (Touch.of_below (by exact (Below.refl _ _).alloc (Nat.le_refl _) o))

theorem Touch.setCell {F : List Nat} {a b : World} (h : Touch F a b) {p : Addr} (hp : p.block ∈ F ∨ a.heap.size ≤ p.block) (u : Value) : Touch F a (b.setCell p u) :=
  h.trans (G := [p.block]) ⟨rfl, rfl, rfl, by simp, fun k _ hk => heap_setCell_other _ _ _ _ (by simpa using hk)⟩ (by simpa using hp)

theorem Touch.grown {F : List Nat} {a b c : World} {row : Option Nat} (h : Touch F a b) (hg : b.grownBy c row) (hr : ∀ k, row = some k → k ∈ F ∨ a.heap.size ≤ k) : Touch F a c :=
  h.trans (G := row.toList) ⟨hg.os, hg.tape, hg.output, hg.size, fun k hk hn => hg.block k hk fun e => hn (by simp [← e])⟩ (fun k hk => hr k (by simpa using hk))

/-- Block b holds these cells, none of them frozen. -/
def Cells (w : World) (b : Nat) (t : TypeId) (cs : Array Value) : Prop := w.heap[b]? = some (.cells cs t (0, 0))

theorem Cells.lt {w : World} {b : Nat} {t : TypeId} {cs : Array Value} (h : Cells w b t cs) : b < w.heap.size := (Array.getElem?_eq_some_iff.1 h).1
theorem Cells.cell {w : World} {b : Nat} {t : TypeId} {cs : Array Value} (h : Cells w b t cs) (i : Nat) : w.cell? ⟨b, i, none⟩ = cs[i]? := by
  simp [World.cell?, show w.heap[b]? = _ from h]
theorem Cells.frozen {w : World} {b : Nat} {t : TypeId} {cs : Array Value} (h : Cells w b t cs) (i : Nat) : w.frozen? ⟨b, i, none⟩ = false := frozen_of_row w b i cs t h
theorem Cells.touch {w w' : World} {b : Nat} {t : TypeId} {cs : Array Value} {F : List Nat} (h : Cells w b t cs) (ht : Touch F w w') (hb : b ∉ F) : Cells w' b t cs := (ht.block b h.lt hb).trans h
theorem Cells.below {w w' : World} {b : Nat} {t : TypeId} {cs : Array Value} (h : Cells w b t cs) (ht : Below w.heap.size w w') : Cells w' b t cs := (ht.block b h.lt).trans h
theorem Cells.set {w : World} {b : Nat} {t : TypeId} {cs : Array Value} (h : Cells w b t cs) (i : Nat) (v : Value) : Cells (w.setCell ⟨b, i, none⟩ v) b t (cs.setIfInBounds i v) := heap_setCell_same w b i cs t v h
theorem Cells.other {w : World} {b : Nat} {t : TypeId} {cs : Array Value} (h : Cells w b t cs) {p : Addr} (hp : b ≠ p.block) (v : Value) : Cells (w.setCell p v) b t cs := (heap_setCell_other w p b v hp).trans h
theorem Cells.alloc {w : World} {b : Nat} {t : TypeId} {cs : Array Value} (h : Cells w b t cs) (o : Obj) : Cells (w.alloc o) b t cs := (Below.heap_alloc w o b h.lt).trans h
theorem Cells.drew {w : World} {b : Nat} {t : TypeId} {cs : Array Value} (h : Cells w b t cs) : Cells w.drew b t cs := h
theorem Cells.drewN {w : World} {b : Nat} {t : TypeId} {cs : Array Value} (h : Cells w b t cs) (q : Nat) : Cells (w.drewN q) b t cs := by
  have e : (w.drewN q).heap = w.heap := by
    induction q generalizing w with
    | zero => rfl
    | succ q ih => exact ih (w := w.drew) h
  exact (by rw [Cells, e]; exact h)
theorem cells_new (w : World) (cs : Array Value) (t : TypeId) : Cells (w.alloc (.cells cs t)) w.heap.size t cs := heap_alloc_new w _

end Go.Proofs.YtlkbahknmbgjmaaGreat

namespace Go.Proofs.YtlkbahknmbgjmaaGreat

abbrev Bytes := List UInt8

/-- Byte k of a text (0 behind its end). -/
def at8 (s : Bytes) (k : Nat) : Nat := (s[k]?.getD 0).toNat

/-- A number of 64 bits, the highest byte first. -/
def be8 (n : Nat) : Bytes := [UInt8.ofNat (n / 72057594037927936), UInt8.ofNat (n / 281474976710656), UInt8.ofNat (n / 1099511627776), UInt8.ofNat (n / 4294967296),
  UInt8.ofNat (n / 16777216), UInt8.ofNat (n / 65536), UInt8.ofNat (n / 256), UInt8.ofNat n]
/-- A signed number. -/
def putI (n : Int) : Bytes := be8 ((n + 9223372036854775808).toNat % 18446744073709551616)
/-- Bytes as a number. -/
def getN (s : Bytes) : Nat := s.foldl (fun n b => n * 256 + b.toNat) 0
/-- Eight bytes as a signed number. -/
def getI (s : Bytes) : Int := (getN s : Int) - 9223372036854775808

/-- Two bytes. -/
def two (n : Nat) : Bytes := [UInt8.ofNat (n / 256), UInt8.ofNat n]
def rd2 (s : Bytes) (k : Nat) : Nat := at8 s k * 256 + at8 s (k + 1)
/-- A text, laid over bytes from a place on. -/
def over (b : Bytes) (k : Nat) (s : Bytes) : Bytes := b.take k ++ s ++ b.drop (k + s.length)
def pad (n : Nat) (s : Bytes) : Bytes := s ++ List.replicate (n - s.length) 0

/-! ## A page's records -/
/-- The slots of a page: where a record begins, and how long it is. -/
def slots (b : Bytes) : List (Nat × Nat) := (List.range (rd2 b 0)).map fun i => (rd2 b (4 + 4 * i), rd2 b (4 + 4 * i + 2))
def apart (x y : Nat × Nat) : Bool := x.2 == 0 || y.2 == 0 || decide (x.1 + x.2 ≤ y.1) || decide (y.1 + y.2 ≤ x.1)
/-- Each slot lies behind the heap's beginning, in the page, apart from those ahead of it. -/
def clear (heap : Nat) : List (Nat × Nat) → List (Nat × Nat) → Bool
  | _, [] => true
  | seen, x :: r => decide (heap ≤ x.1) && decide (x.1 + x.2 ≤ 232) && seen.all (apart x) && clear heap (seen ++ [x]) r
/-- Is a page sound? -/
def sound (b : Bytes) : Bool := b.length == 232 && decide (rd2 b 2 ≤ 232) && decide (4 + 4 * rd2 b 0 ≤ rd2 b 2) && clear (rd2 b 2) [] (slots b)
def record (b : Bytes) (x : Nat × Nat) : Bytes := (b.drop x.1).take x.2
def records (b : Bytes) : List Bytes := (slots b).map (record b)
def room (l : List (Nat × Nat)) : Int := l.foldl (fun (n : Int) x => n - (4 + x.2)) 228

/-- Slots, laid from place k on. -/
def laySlots (b : Bytes) (k : Nat) : List (Nat × Nat) → Bytes
  | [] => b
  | x :: r => laySlots (over (over b k (two x.1)) (k + 2) (two x.2)) (k + 4) r
def withSlots (b : Bytes) (l : List (Nat × Nat)) (heap : Nat) : Bytes := laySlots (over (over b 0 (two l.length)) 2 (two heap)) 4 l
def emptyPage : Bytes := over (List.replicate 232 0) 2 (two 232)

/-- Records, laid from the page's end on: the bytes, the slots, where the heap begins. -/
def packed : List Bytes → Bytes → List (Nat × Nat) → Nat → Bytes × List (Nat × Nat) × Nat
  | [], b, l, heap => (b, l, heap)
  | r :: rs, b, l, heap => packed rs (over b (heap - r.length) r) (l ++ [(heap - r.length, r.length)]) (heap - r.length)
def compact (b : Bytes) : Bytes := let x := packed (records b) (List.replicate 232 0) [] 232; withSlots x.1 x.2.1 x.2.2

/-- A record more, at place i. -/
def insertRec (b : Bytes) (i : Nat) (r : Bytes) : Option Bytes :=
  if sound b && decide (i ≤ (slots b).length) && decide ((r.length : Int) ≤ room (slots b) - 4) then
    let b' := if 4 + 4 * ((slots b).length + 1) + r.length > rd2 b 2 then compact b else b
    let l := slots b'
    let heap := rd2 b' 2 - r.length
    some (withSlots (over b' heap r) (l.take i ++ (heap, r.length) :: l.drop i) heap)
  else none
/-- Records in an empty page; none: there is no room. -/
def ofRecs : List Bytes → Nat → Bytes → Option Bytes
  | [], _, b => some b
  | r :: rs, i, b => (insertRec b i r).bind fun b' => ofRecs rs (i + 1) b'

/-! ## Nodes -/
structure Ent where
  key : Bytes
  val : Bytes
  far : Int
deriving DecidableEq
structure Nod where
  leaf : Bool
  l : List Ent
deriving DecidableEq

/-- Which of two texts is less. -/
def lessB : Bytes → Bytes → Bool
  | _, [] => false
  | [], _ :: _ => true
  | a :: x, b :: y => if a == b then lessB x y else decide (a.toNat < b.toNat)
def rightEnt (x : Ent) (leaf : Bool) : Bool :=
  decide (x.key.length ≤ 32) && decide (x.val.length ≤ 40) && decide ((if leaf then -1 else 0) ≤ x.far) && decide (x.far < 512) && (decide (x.far < 0) || x.val.isEmpty)
def mayFrom : Bool → Option Bytes → List Ent → Bool
  | _, _, [] => true
  | leaf, p, x :: r => rightEnt x leaf && (match p with | none => true | some k => lessB k x.key) && mayFrom leaf (some x.key) r
def may (n : Nod) : Bool := mayFrom n.leaf none n.l
def entBytes (x : Ent) : Bytes := UInt8.ofNat x.key.length :: (x.key ++ two (x.far + 1).toNat ++ x.val)
def kind (leaf : Bool) : Bytes := if leaf then [1] else [2]
/-- A node's page; none: it may not be, or there is no room. -/
def putNode (n : Nod) : Option Bytes := if may n then ofRecs (kind n.leaf :: n.l.map entBytes) 0 emptyPage else none
def readEnt (s : Bytes) : Option Ent :=
  if s.isEmpty || decide (s.length < 3 + at8 s 0) then none
  else some { key := (s.drop 1).take (at8 s 0), val := s.drop (1 + at8 s 0 + 2), far := (rd2 s (1 + at8 s 0) : Int) - 1 }
def readEnts : List Bytes → Option (List Ent)
  | [] => some []
  | s :: r => (readEnt s).bind fun x => (readEnts r).map (x :: ·)
def getNode (b : Bytes) : Option Nod :=
  if sound b then
    match records b with
    | [] => none
    | k :: r => if k == [1] || k == [2] then (readEnts r).bind fun l => let n : Nod := { leaf := k == [1], l }; if may n then some n else none else none
  else none

/-- The place of a key, and whether it is there. -/
def findKey (l : List Ent) (key : Bytes) : Nat × Bool := (l.findIdx fun x => !lessB x.key key, l.any fun x => x.key == key)
def belowKey (l : List Ent) (key : Bytes) : Nat := let x := findKey l key; if x.2 then x.1 else x.1 - 1

def sizeEnts (l : List Ent) : Nat := l.foldl (fun n x => n + x.key.length + x.val.length + 7) 0

end Go.Proofs.YtlkbahknmbgjmaaGreat

namespace Go.Proofs.YtlkbahknmbgjmaaGreat

theorem toNat_ofNat8 (n : Nat) : (UInt8.ofNat n).toNat = n % 256 := by simp

theorem be8_length (n : Nat) : (be8 n).length = 8 := rfl
theorem putI_length (n : Int) : (putI n).length = 8 := rfl

theorem getN_be8 (n : Nat) (h : n < 18446744073709551616) : getN (be8 n) = n := by
  simp only [getN, be8, List.foldl, toNat_ofNat8]
  omega

theorem getI_putI (n : Int) (h1 : -9223372036854775808 ≤ n) (h2 : n ≤ 9223372036854775807) : getI (putI n) = n := by
  unfold getI putI
  rw [getN_be8 _ (by omega)]
  omega

theorem rd2_two (n : Nat) (h : n < 65536) : rd2 (two n) 0 = n := by
  simp [rd2, at8, two]
  omega

theorem getN_lt : ∀ (s : Bytes), getN s < 256 ^ s.length := by
  intro s
  have : ∀ (s : Bytes) (n : Nat), s.foldl (fun n b => n * 256 + b.toNat) n < (n + 1) * 256 ^ s.length := by
    intro s
    induction s with
    | nil => intro n; simp
    | cons b r ih =>
      intro n
      have := ih (n * 256 + b.toNat)
      have hb : b.toNat < 256 := b.toNat_lt
      simp only [List.foldl, List.length_cons]
      refine Nat.lt_of_lt_of_le this ?_
      rw [Nat.pow_succ, Nat.mul_comm (256 ^ r.length) 256, ← Nat.mul_assoc]
      exact Nat.mul_le_mul_right _ (by omega)
  have := this s 0
  simpa [getN] using this

end Go.Proofs.YtlkbahknmbgjmaaGreat

namespace Go.Proofs.YtlkbahknmbgjmaaGreat

/-- What four bits that fall out come to. -/
def crcTab : List Nat := [0x00000000, 0x105ec76f, 0x20bd8ede, 0x30e349b1, 0x417b1dbc, 0x5125dad3, 0x61c69362, 0x7198540d,
  0x82f63b78, 0x92a8fc17, 0xa24bb5a6, 0xb21572c9, 0xc38d26c4, 0xd3d3e1ab, 0xe330a81a, 0xf36e6f75]
def half4 (r : Nat) : Nat := (r / 16) ^^^ (crcTab[r % 16]?.getD 0)
def take8 (reg : Nat) (c : UInt8) : Nat := half4 (half4 (reg ^^^ c.toNat))
def crcSum (s : Bytes) : Nat := (s.foldl take8 4294967295) ^^^ 4294967295
def four (n : Nat) : Bytes := [UInt8.ofNat n, UInt8.ofNat (n / 256), UInt8.ofNat (n / 65536), UInt8.ofNat (n / 16777216)]
def crcLay (s : Bytes) : Bytes := four (crcSum s) ++ s

theorem crcTab_lt (k : Nat) : crcTab[k]?.getD 0 < 4294967296 := by
  rcases Nat.lt_or_ge k 16 with h | h
  · have : ∀ k : Fin 16, crcTab[k.1]?.getD 0 < 4294967296 := by decide
    exact this ⟨k, h⟩
  · rw [List.getElem?_eq_none (by simpa [crcTab] using h)]; simp
theorem half4_lt (r : Nat) (h : r < 4294967296) : half4 r < 4294967296 := by
  unfold half4
  exact Nat.xor_lt_two_pow (n := 32) (by omega) (crcTab_lt _)
theorem take8_lt (reg : Nat) (c : UInt8) (h : reg < 4294967296) : take8 reg c < 4294967296 := by
  unfold take8
  have hc : c.toNat < 4294967296 := by have := c.toNat_lt; omega
  exact half4_lt _ (half4_lt _ (Nat.xor_lt_two_pow (n := 32) h hc))
theorem crcFold_lt (s : Bytes) : ∀ reg, reg < 4294967296 → s.foldl take8 reg < 4294967296 := by
  induction s with
  | nil => intro reg h; exact h
  | cons b r ih => intro reg h; exact ih _ (take8_lt reg b h)
theorem crcSum_lt (s : Bytes) : crcSum s < 4294967296 := Nat.xor_lt_two_pow (n := 32) (crcFold_lt s _ (by omega)) (by omega)

/-- The bytes of a page but for its check. -/
def pageBody (id epoch : Int) (kind : Nat) (payload : Bytes) : Bytes := pad 252 (putI id ++ putI epoch ++ (be8 kind).drop 4 ++ payload)
/-- A page as it lies on the disk. -/
def pageBytes (id epoch : Int) (kind : Nat) (payload : Bytes) : Bytes := crcLay (pageBody id epoch kind payload)

theorem pageBody_length (id epoch : Int) (kind : Nat) (payload : Bytes) (h : payload.length ≤ 232) : (pageBody id epoch kind payload).length = 252 := by
  simp [pageBody, pad, putI, be8]
  omega
theorem pageBytes_length (id epoch : Int) (kind : Nat) (payload : Bytes) (h : payload.length ≤ 232) : (pageBytes id epoch kind payload).length = 256 := by
  simp [pageBytes, crcLay, four, pageBody_length _ _ _ _ h]
theorem pageBody_payload (id epoch : Int) (kind : Nat) (payload : Bytes) : (pageBody id epoch kind payload).drop 20 = pad 232 payload := by
  have e : putI id ++ putI epoch ++ (be8 kind).drop 4 ++ payload = (putI id ++ putI epoch ++ (be8 kind).drop 4) ++ payload := rfl
  have h20 : (putI id ++ putI epoch ++ (be8 kind).drop 4).length = 20 := rfl
  unfold pageBody pad
  rw [List.append_assoc, List.drop_append_of_le_length (by omega), List.drop_eq_nil_of_le (by omega)]
  simp [putI, be8]

/-- Sector i of a page. -/
def sector (img : Bytes) (i : Nat) : Bytes := (img.drop (64 * i)).take 64
theorem sector_length (img : Bytes) (i : Nat) (h : img.length = 256) (hi : i < 4) : (sector img i).length = 64 := by simp [sector, h]; omega
theorem sectors_all (img : Bytes) (h : img.length = 256) : sector img 0 ++ sector img 1 ++ sector img 2 ++ sector img 3 = img := by
  unfold sector
  have h3 : (img.drop 192).take 64 = img.drop 192 := List.take_of_length_le (by simp [h])
  have a : ∀ k, (img.drop k).take 64 ++ img.drop (k + 64) = img.drop k := fun k => by
    rw [← List.drop_drop, List.take_append_drop]
  have a0 := a 0
  simp only [List.drop_zero] at a0
  show (img.drop 0).take 64 ++ (img.drop 64).take 64 ++ (img.drop 128).take 64 ++ (img.drop 192).take 64 = img
  rw [h3, List.append_assoc, List.append_assoc, a 128, a 64, List.drop_zero, a0]

end Go.Proofs.YtlkbahknmbgjmaaGreat

namespace Go.Proofs.YtlkbahknmbgjmaaGreat

theorem body_parts (id ep : Int) (kd : Nat) (p : Bytes) : pageBody id ep kd p = putI id ++ (putI ep ++ ((be8 kd).drop 4 ++ pad 232 p)) := by
  unfold pageBody pad
  have : (putI id ++ putI ep ++ (be8 kd).drop 4 ++ p).length = 20 + p.length := by simp [putI_length, be8]; omega
  rw [this, show 252 - (20 + p.length) = 232 - p.length by omega]
  simp
theorem body_id (id ep : Int) (kd : Nat) (p : Bytes) : ((pageBody id ep kd p).drop 0).take 8 = putI id := by
  rw [body_parts, List.drop_zero]
  exact List.take_left' (putI_length id)
theorem body_ep (id ep : Int) (kd : Nat) (p : Bytes) : ((pageBody id ep kd p).drop 8).take 8 = putI ep := by
  rw [body_parts, List.drop_left' (putI_length id)]
  exact List.take_left' (putI_length ep)
theorem body_kd (id ep : Int) (kd : Nat) (p : Bytes) : ((pageBody id ep kd p).drop 16).take 4 = (be8 kd).drop 4 := by
  rw [body_parts, ← List.append_assoc, List.drop_left' (by simp [putI_length])]
  exact List.take_left' rfl
theorem body_pay (id ep : Int) (kd : Nat) (p : Bytes) : (pageBody id ep kd p).drop 20 = pad 232 p := by
  rw [body_parts, ← List.append_assoc, ← List.append_assoc, List.drop_left' (by simp [putI_length, be8])]
theorem getN_kind (kd : Nat) (h : kd < 4294967296) : getN ([0, 0, 0, 0] ++ (be8 kd).drop 4) = kd := by
  simp only [getN, be8, List.drop, List.cons_append, List.nil_append, List.foldl, toNat_ofNat8]
  simp
  omega

end Go.Proofs.YtlkbahknmbgjmaaGreat
