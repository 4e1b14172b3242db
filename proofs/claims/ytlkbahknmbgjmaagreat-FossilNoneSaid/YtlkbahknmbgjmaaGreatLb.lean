/-
  What 'pack' comes to: numbers as bytes. What the readers of 'pack' come to, where there are bytes enough. What 'crc' comes to. The check of bytes: laid ahead of them, and taken away.
  No conditions.
-/
import Derived.Test.YtlkbahknmbgjmaaGreatProg
import Derived.Test.YtlkbahknmbgjmaaGreatLa
import Derived.WalkKit
import Derived.WalkSpells
import Derived.WalkLawsBesides
import Derived.Lib.Hide
import Derived.Outline
import Derived.LoopTactic
import Derived.Deep.QuietTactic
import Derived.BigQuiet
import Derived.Lib.AppendStr
import Derived.Lib.OwnBridge
import Derived.Laws.IdiomStrings
namespace Go.Proofs.YtlkbahknmbgjmaaGreat
open Go.RowKit

theorem info_parts {P : Program} {t : TypeId} {z : Value} {s b : Nat} (h : (P.info? t).map (fun i => (i.zero, i.size, i.bytes)) = some (some z, s, b)) :
    ∃ i, P.info? t = some i ∧ i.zero = some z ∧ i.size = s ∧ i.bytes = b := by
  cases hi : P.info? t with
  | none => simp [hi] at h
  | some i => simp [hi] at h; exact ⟨i, rfl, h.1, h.2.1, h.2.2⟩

theorem info5 : (Tryz.prog.info? 5).map (fun i => (i.zero, i.size, i.bytes)) = some (some (.int .u8 0), 1, 1) := by kernel_rfl

theorem cell_one_at (w : World) (v : Value) (T : TypeId) (n : Nat) (h : n = w.heap.size) : ∀ j u, [v][j]? = some u → (w.alloc (.cells #[v] T)).cell? ((⟨n, 0, none⟩ : Addr).add j) = some u := by
  subst h; exact cell_one_new w v T

/-- The byte of a number that j bytes are ahead of. -/
def byteAt (n j : Nat) : Value := .int .u8 ((n / 2 ^ (8 * (7 - j)) % 256 : Nat) : Int)

theorem byte_more {w : World} {B n k : Nat} {v x : Value} (h : w.ownsRow B 5 1 v (k + 1) ((List.range k).map (byteAt n) ++ [x])) (hx : x = byteAt n k) : w.ownsRow B 5 1 v (k + 1) ((List.range (k + 1)).map (byteAt n)) := by
  subst hx
  rw [List.range_succ, List.map_append]
  exact h

set_option maxHeartbeats 2000000 in
theorem put8_nil (n : Nat) (hn : n < 18446744073709551616) (w : World) :
    Calls Tryz.prog 168 #[.slice none 0 0, .int .u64 n, .int .i64 8] w fun e w' => ∃ v, e = .returned v ∧ w'.ownsRow w.heap.size 5 1 v 8 ((List.range 8).map (byteAt n)) ∧ Below w.heap.size w w' := by
  obtain ⟨i0, hi0, hz0, hz1, hz2⟩ := info_parts info5
  go_enter Tryz.func168, Tryz.ntmps168
  go_wp2
  go_loopw [0, 7] (fun v i wr => ∃ k : Nat, k ≤ 8 ∧ i = .int .i64 (7 - (k : Int)) ∧ wr.ownsRow w.heap.size 5 1 v k ((List.range k).map (byteAt n)) ∧ Below w.heap.size w wr) (fun _ i _ => (intOf i + 1).toNat)
  case atStart => exact ⟨0, by omega, rfl, World.ownsRow_nil _ _ _ _, Below.refl _ _⟩
  case round =>
    obtain ⟨k, hk, hi, hown, hb⟩ := hrel
    have hsz := hb.size
    have hk9 : k = 8 ∨ k = 0 ∨ k = 1 ∨ k = 2 ∨ k = 3 ∨ k = 4 ∨ k = 5 ∨ k = 6 ∨ k = 7 := by omega
    rcases hk9 with rfl | hk9
    · simp at hi
      subst hi
      go_wp2
      go_ret
      exact ⟨_, rfl, hown, hb⟩
    · rcases hk9 with rfl | rfl | rfl | rfl | rfl | rfl | rfl | rfl
      all_goals
        simp at hi
        subst hi
        go_wp2_with (at_builtin; refine wpList_append_own _ rfl _ _ 244 rfl w.heap.size 5 i0 (.int .u8 0) 1 1 Tryz.underlying244 hi0 hz0 hz1 hz2 rfl (by decide) _ _ _ rfl (hown.alloc _) ⟨wr.heap.size, 0, none⟩ 1 1 [_] rfl rfl (cell_one_at _ _ _ _ (by simp)) (by simp [Value.oneCell']) (by simp only [maxLen]; omega) (by omega) (by simp; omega) ?_; intro v' w1 hown' hgrow _)
        refine ⟨⟨_, ?_, ?_, byte_more hown' ?_, (hb.alloc hsz _).grown hgrow (by simp; omega) (fun j hj => (hown.lt j hj).1)⟩, ?_⟩
        · omega
        · rfl
        · simp [byteAt] <;> omega
        · simp [intOf]

/-- Bytes, as cells. -/
def u8s (s : Bytes) : List Value := s.map fun b => .int .u8 (b.toNat : Int)
/-- A text. -/
abbrev str (s : Bytes) : Value := .string ⟨s.toArray⟩

theorem u8s_length (s : Bytes) : (u8s s).length = s.length := by simp [u8s]
theorem u8s_app (s t : Bytes) : u8s (s ++ t) = u8s s ++ u8s t := by simp [u8s]

/-- Bytes of the call's own, as a text. -/
theorem str_of_own {w : World} {B : Nat} {v : Value} {k : Nat} {s : Bytes} (h : w.ownsRow B 5 1 v k (u8s s)) : (convert 244 9 v).run Tryz.prog w = .ok (str s) w := by
  have hl : s.length = k := by have := h.1; simpa [u8s] using this
  rcases h.2 with ⟨rfl, h0⟩ | ⟨g, cap, cur, rfl, _⟩
  · subst h0
    have : s = [] := List.eq_nil_of_length_eq_zero hl
    subst this
    rw [run_convert_bytes_string w 244 9 5 none 0 0 Tryz.underlying244 Tryz.underlying5 Tryz.underlying9]
    rfl
  · have := run_convert_bytes_back (P := Tryz.prog) w 244 9 5 ⟨g, 0, none⟩ cap s Tryz.underlying244 Tryz.underlying5 Tryz.underlying9 (fun j hj => h.cells (g := g) rfl j _ (by simp [u8s, List.getElem?_eq_getElem hj]))
    rw [hl] at this
    exact this

theorem bytes_be8 (n : Nat) : (List.range 8).map (byteAt n) = u8s (be8 n) := by
  simp [List.range_succ, byteAt, u8s, be8]

set_option maxHeartbeats 2000000 in
theorem packU_any (n : Nat) (hn : n < 18446744073709551616) (w : World) :
    Calls Tryz.prog 237 #[.int .u64 n] w fun e w' => e = .returned (str (be8 n)) ∧ Below w.heap.size w w' := by
  go_enter Tryz.func237, Tryz.ntmps237
  go_wp2_with (go_at_call 168; refine (put8_nil n hn _).mono ?_; rintro e w' ⟨v, rfl, hown, hb⟩; rw [bytes_be8] at hown; have hst := str_of_own hown)
  go_ret
  exact ⟨rfl, hb⟩

set_option maxHeartbeats 2000000 in
theorem packI_any (n : Int) (h1 : -9223372036854775808 ≤ n) (h2 : n ≤ 9223372036854775807) (w : World) :
    Calls Tryz.prog 94 #[.int .i64 n] w fun e w' => e = .returned (str (putI n)) ∧ Below w.heap.size w w' := by
  have hw : IntKind.u64.wrap (IntKind.u64.wrap n + 9223372036854775808) = (((n + 9223372036854775808).toNat % 18446744073709551616 : Nat) : Int) := by
    simp only [IntKind.wrap, IntKind.signed, IntKind.bits]
    simp
    omega
  have hm : ((n + 9223372036854775808).toNat % 18446744073709551616 : Nat) < 18446744073709551616 := Nat.mod_lt _ (by decide)
  have HP := Lib.hid (put8_nil ((n + 9223372036854775808).toNat % 18446744073709551616) hm)
  have HW := Lib.hid hw
  clear hm hw
  go_enter Tryz.func94, Tryz.ntmps94
  go_wp2_with (go_at_call 168; rw [HW.out]; refine (HP.out _).mono ?_; rintro e w' ⟨v, rfl, hown, hb⟩; rw [bytes_be8] at hown; have hst := str_of_own hown)
  go_ret
  exact ⟨rfl, hb⟩

end Go.Proofs.YtlkbahknmbgjmaaGreat

namespace Go.Proofs.YtlkbahknmbgjmaaGreat
open Go.RowKit

theorem getN_snoc (s : Bytes) (b : UInt8) : getN (s ++ [b]) = getN s * 256 + b.toNat := by simp [getN]

theorem str_get {s : Bytes} {k : Nat} {b : UInt8} (hb : s[k]? = some b) (h : k < ({ data := s.toArray } : ByteArray).size) : ({ data := s.toArray } : ByteArray)[k]'h = b := by
  have h2 : k < s.length := by simpa [ByteArray.size] using h
  have : s[k] = b := by rw [List.getElem?_eq_getElem h2] at hb; simpa using hb
  show s.toArray[k]'_ = b
  simpa using this

set_option maxHeartbeats 2000000 in
theorem get_any (s : Bytes) (hs : s.length ≤ 8) (w : World) :
    Calls Tryz.prog 177 #[str s] w fun e w' => e = .returned (.int .u64 (getN s)) ∧ w = w' := by
  go_enter Tryz.func177, Tryz.ntmps177
  go_wp2
  go_loopw [3, 7] (fun n i wr => ∃ k : Nat, k ≤ s.length ∧ n = .int .u64 (getN (s.take k)) ∧ i = .int .i64 k ∧ w = wr) (fun _ i _ => s.length - (intOf i).toNat)
  case atStart => exact ⟨0, by omega, by simp [getN], rfl, rfl⟩
  case round =>
    obtain ⟨k, hk, rfl, rfl, rfl⟩ := hrel
    by_cases hlt : k < s.length
    · obtain ⟨b, hb⟩ : ∃ b, s[k]? = some b := ⟨s[k], List.getElem?_eq_getElem hlt⟩
      have hn : getN (s.take (k + 1)) = getN (s.take k) * 256 + b.toNat := by
        rw [List.take_add_one, hb]; exact getN_snoc _ _
      have hbb := b.toNat_lt
      have hg : getN (s.take k) < 72057594037927936 := by
        have h1 := getN_lt (s.take k)
        have h2 : (s.take k).length = k := by simp; omega
        rw [h2] at h1
        have : 256 ^ k ≤ 256 ^ 7 := Nat.pow_le_pow_right (by omega) (by omega)
        omega
      generalize getN (s.take k) = m at *
      go_wp2
      have hx : ({ data := s.toArray } : ByteArray)[k]'(by show k < s.toArray.size; simpa using hlt) = b := str_get hb _
      rw [hx]
      have hor : bits .or .u64 ((m : Int) * 256) (IntKind.u64.wrap (b.toNat : Int)) = ((m * 256 + b.toNat : Nat) : Int) := by
        have e1 : IntKind.u64.wrap (b.toNat : Int) = ((b.toNat : Nat) : Int) := by simp only [IntKind.wrap, IntKind.signed, IntKind.bits]; simp; omega
        rw [e1, show (m : Int) * 256 = ((m * 256 : Nat) : Int) by simp, bits_or_u64_nat _ _ (by omega) (by omega)]
        have := Nat.two_pow_add_eq_or_of_lt (i := 8) (b := b.toNat) (by omega) m
        rw [Nat.mul_comm] at this
        rw [← this]
      refine ⟨⟨k + 1, by omega, by rw [hor, hn], by simp, trivial⟩, by simp [intOf]; omega⟩
    · have : k = s.length := by omega
      subst this
      rw [List.take_length] at *
      go_wp2
      go_ret
      exact ⟨rfl, rfl⟩

theorem left_ok (s : Bytes) (k n : Nat) (h : k + n ≤ s.length) (hs : s.length ≤ 1099511627776) (w : World) :
    Calls Tryz.prog 176 #[str s, .int .i64 k, .int .i64 n] w fun e w' => e = .returned (.int .i64 0) ∧ w = w' := by
  have h1 : k ≤ s.length := by omega
  go_enter Tryz.func176, Tryz.ntmps176
  go_wp2
  go_ret
  exact ⟨rfl, rfl⟩

set_option maxHeartbeats 2000000 in
theorem readU_ok (s : Bytes) (k : Nat) (h : k + 8 ≤ s.length) (hs : s.length ≤ 1099511627776) (w : World) :
    Calls Tryz.prog 107 #[str s, .int .i64 k] w fun e w' => e = .returned (.tuple #[.int .u64 (getN ((s.drop k).take 8)), .int .i64 ((k + 8 : Nat) : Int), .int .i64 0]) ∧ w = w' := by
  have HL := Lib.hid (left_ok s k 8 h hs)
  have HG := Lib.hid (get_any ((s.drop k).take 8) (by simp; omega))
  go_enter Tryz.func107, Tryz.ntmps107
  go_wp2_with (first | (go_at_call 176; refine (HL.out _).mono ?_; rintro e w' ⟨rfl, rfl⟩) | (go_at_call 177; rw [ByteArray.extract_mk, Nat.add_sub_cancel_left]; refine (HG.out _).mono ?_; rintro e w' ⟨rfl, rfl⟩))
  go_ret3
  exact ⟨rfl, rfl⟩

theorem getN8_lt (s : Bytes) (k : Nat) : getN ((s.drop k).take 8) < 18446744073709551616 := by
  have h1 := getN_lt ((s.drop k).take 8)
  have h2 : ((s.drop k).take 8).length ≤ 8 := by simp; omega
  have : 256 ^ ((s.drop k).take 8).length ≤ 256 ^ 8 := Nat.pow_le_pow_right (by omega) h2
  omega

set_option maxHeartbeats 2000000 in
theorem readI_ok (s : Bytes) (k : Nat) (h : k + 8 ≤ s.length) (hs : s.length ≤ 1099511627776) (w : World) :
    Calls Tryz.prog 43 #[str s, .int .i64 k] w fun e w' => e = .returned (.tuple #[.int .i64 (getI ((s.drop k).take 8)), .int .i64 ((k + 8 : Nat) : Int), .int .i64 0]) ∧ w = w' := by
  have HR := Lib.hid (readU_ok s k h hs)
  have hlt := getN8_lt s k
  have HE := Lib.hid (show getI ((s.drop k).take 8) = (getN ((s.drop k).take 8) : Int) - 9223372036854775808 from rfl)
  generalize getN ((s.drop k).take 8) = m at *
  have hw : wrap64 (IntKind.u64.wrap ((m : Int) + 9223372036854775808)) = (m : Int) - 9223372036854775808 := by
    rw [IntKind.wrap_u64]
    unfold wrap64
    omega
  have HW := Lib.hid hw
  clear hw
  go_enter Tryz.func43, Tryz.ntmps43
  go_wp2_with (go_at_call 107; refine (HR.out _).mono ?_; rintro e w' ⟨rfl, rfl⟩)
  go_ret3
  rw [HW.out, HE.out]
  exact ⟨rfl, rfl⟩

end Go.Proofs.YtlkbahknmbgjmaaGreat

namespace Go.Proofs.YtlkbahknmbgjmaaGreat
open Go.RowKit

theorem ofInt32 (a : Nat) (ha : a < 4294967296) : (BitVec.ofInt 32 (a : Int)).toNat = a := by
  rw [BitVec.ofInt_natCast, BitVec.toNat_ofNat]; exact Nat.mod_eq_of_lt (by omega)
theorem bits_xor_u32_nat (a b : Nat) (ha : a < 4294967296) (hb : b < 4294967296) : bits .xor .u32 (a : Int) (b : Int) = ((a ^^^ b : Nat) : Int) := by
  have hx : a ^^^ b < 2 ^ 32 := Nat.xor_lt_two_pow (by omega) (by omega)
  show IntKind.u32.wrap ((BitVec.ofInt 32 (a : Int) ^^^ BitVec.ofInt 32 (b : Int)).toNat : Int) = _
  rw [BitVec.toNat_xor, ofInt32 a ha, ofInt32 b hb, IntKind.wrap_u32]
  omega
theorem bits_low4 (a : Nat) (ha : a < 4294967296) : bits .and .u32 (a : Int) 15 = ((a % 16 : Nat) : Int) := by
  show IntKind.u32.wrap ((BitVec.ofInt 32 (a : Int) &&& BitVec.ofInt 32 ((15 : Nat) : Int)).toNat : Int) = _
  rw [BitVec.toNat_and, ofInt32 a ha, ofInt32 15 (by omega), show (15 : Nat) = 2 ^ 4 - 1 from rfl, Nat.and_two_pow_sub_one_eq_mod, IntKind.wrap_u32]
  omega

def tabCells : Array Value := #[Value.int IntKind.u32 0, Value.int IntKind.u32 274646895, Value.int IntKind.u32 549293790,
  Value.int IntKind.u32 820201905, Value.int IntKind.u32 1098587580, Value.int IntKind.u32 1361435347,
  Value.int IntKind.u32 1640403810, Value.int IntKind.u32 1905808397, Value.int IntKind.u32 2197175160,
  Value.int IntKind.u32 2460548119, Value.int IntKind.u32 2722870694, Value.int IntKind.u32 2987750089,
  Value.int IntKind.u32 3280807620, Value.int IntKind.u32 3553878443, Value.int IntKind.u32 3811616794,
  Value.int IntKind.u32 4084100981]
theorem tab_at (m : Nat) (h : m < 16) : tabCells[m]? = some (.int .u32 ((crcTab[m]?.getD 0 : Nat) : Int)) := by
  have : m = 0 ∨ m = 1 ∨ m = 2 ∨ m = 3 ∨ m = 4 ∨ m = 5 ∨ m = 6 ∨ m = 7 ∨ m = 8 ∨ m = 9 ∨ m = 10 ∨ m = 11 ∨ m = 12 ∨ m = 13 ∨ m = 14 ∨ m = 15 := by omega
  rcases this with rfl | rfl | rfl | rfl | rfl | rfl | rfl | rfl | rfl | rfl | rfl | rfl | rfl | rfl | rfl | rfl <;> rfl

/-- Four bits fall out, k times. -/
def half4s (r : Nat) : Nat → Nat
  | 0 => r
  | k + 1 => half4 (half4s r k)
theorem half4s_lt (r : Nat) (h : r < 4294967296) : ∀ k, half4s r k < 4294967296
  | 0 => h
  | k + 1 => half4_lt _ (half4s_lt r h k)

set_option maxHeartbeats 4000000 in
theorem take_any (r : Nat) (hr : r < 4294967296) (c : UInt8) (w : World) :
    Calls Tryz.prog 329 #[.int .u32 r, .int .u8 (c.toNat : Int)] w fun e w' => e = .returned (.int .u32 (take8 r c)) ∧ Below w.heap.size w w' := by
  have hc := c.toNat_lt
  have hcr : c.toNat < 4294967296 := by omega
  have hx := bits_xor_u32_nat r c.toNat hr hcr
  have hxl : r ^^^ c.toNat < 4294967296 := Nat.xor_lt_two_pow (n := 32) (by omega) (by omega)
  have HT := Lib.hid (show take8 r c = half4s (r ^^^ c.toNat) 2 from rfl)
  have HX := Lib.hid hx
  clear hx
  go_enter Tryz.func329, Tryz.ntmps329
  go_wp2
  rw [HX.out]
  generalize r ^^^ c.toNat = x at *
  have hcs : Cells (w.alloc (.cells tabCells 509)) w.heap.size 509 tabCells := cells_new w tabCells 509
  have hb1 : Below w.heap.size w (w.alloc (.cells tabCells 509)) := (Below.refl _ _).alloc (Nat.le_refl _) _
  have hT := fun m (hm : m < 16) => (hcs.cell m).trans (tab_at m hm)
  unfold tabCells at hT hb1
  clear hcs
  generalize w.alloc (.cells #[Value.int IntKind.u32 0, Value.int IntKind.u32 274646895, Value.int IntKind.u32 549293790,
  Value.int IntKind.u32 820201905, Value.int IntKind.u32 1098587580, Value.int IntKind.u32 1361435347,
  Value.int IntKind.u32 1640403810, Value.int IntKind.u32 1905808397, Value.int IntKind.u32 2197175160,
  Value.int IntKind.u32 2460548119, Value.int IntKind.u32 2722870694, Value.int IntKind.u32 2987750089,
  Value.int IntKind.u32 3280807620, Value.int IntKind.u32 3553878443, Value.int IntKind.u32 3811616794,
  Value.int IntKind.u32 4084100981] 509) = W at hT hb1 ⊢
  go_loopw [0, 11] (fun v i wr => ∃ k : Nat, k ≤ 2 ∧ v = .int .u32 (half4s x k) ∧ i = .int .i64 k ∧ W = wr) (fun _ i _ => 2 - (intOf i).toNat)
  case atStart => exact ⟨0, by omega, rfl, rfl, rfl⟩
  case round =>
    obtain ⟨k, hk, rfl, rfl, rfl⟩ := hrel
    by_cases hlt : k < 2
    · have hy := half4s_lt x hxl k
      have HN := Lib.hid (show half4s x (k + 1) = half4 (half4s x k) from rfl)
      generalize half4s x k = y at *
      have hm : y % 16 < 16 := Nat.mod_lt _ (by decide)
      have hld := hT (y % 16) hm
      have hand := bits_low4 y hy
      have ht := crcTab_lt (y % 16)
      have HH := Lib.hid (show half4 y = (y / 16) ^^^ (crcTab[y % 16]?.getD 0) from rfl)
      clear hT
      generalize crcTab[y % 16]?.getD 0 = t at *
      generalize y % 16 = m at *
      clear hb1
      go_wp2
      refine ⟨⟨k + 1, by omega, ?_, by simp, trivial⟩, by simp [intOf]; omega⟩
      rw [HN.out, HH.out, show (y : Int) / 16 = ((y / 16 : Nat) : Int) by simp, bits_xor_u32_nat _ _ (by omega) ht]
    · have : k = 2 := by omega
      subst this
      go_wp2
      go_ret
      rw [HT.out]
      exact ⟨rfl, hb1⟩

end Go.Proofs.YtlkbahknmbgjmaaGreat

namespace Go.Proofs.YtlkbahknmbgjmaaGreat
open Go.RowKit

theorem xor_max : bits BinOp.xor IntKind.u32 IntKind.u32.max 0 = 4294967295 := by decide

set_option maxHeartbeats 4000000 in
theorem more_any (s : Bytes) (hs : s.length ≤ 1048576) (w : World) :
    Calls Tryz.prog 295 #[.int .u32 0, str s] w fun e w' => e = .returned (.int .u32 (crcSum s)) ∧ Below w.heap.size w w' := by
  have HS := Lib.hid (show crcSum s = (s.foldl take8 4294967295) ^^^ 4294967295 from rfl)
  go_enter Tryz.func295, Tryz.ntmps295
  go_wp2
  rw [xor_max]
  go_loopw [5, 11] (fun v i wr => ∃ k : Nat, k ≤ s.length ∧ v = .int .u32 (((s.take k).foldl take8 4294967295 : Nat) : Int) ∧ i = .int .i64 k ∧ Below w.heap.size w wr) (fun _ i _ => s.length - (intOf i).toNat)
  case atStart => exact ⟨0, by omega, rfl, rfl, Below.refl _ _⟩
  case round =>
    obtain ⟨k, hk, rfl, rfl, hb⟩ := hrel
    have hsz := hb.size
    have hl := crcFold_lt (s.take k) 4294967295 (by omega)
    by_cases hlt : k < s.length
    · obtain ⟨b, hbk⟩ : ∃ b, s[k]? = some b := ⟨s[k], List.getElem?_eq_getElem hlt⟩
      have hn : (s.take (k + 1)).foldl take8 4294967295 = take8 ((s.take k).foldl take8 4294967295) b := by
        rw [List.take_add_one, hbk]; simp
      have HN := Lib.hid hn
      have HC := Lib.hid (take_any ((s.take k).foldl take8 4294967295) hl b)
      clear hn
      generalize (s.take k).foldl take8 4294967295 = m at *
      go_wp2_with (go_at_call 329; rw [str_get hbk]; refine (HC.out _).mono ?_; rintro e w' ⟨rfl, hb2⟩)
      go_roundw
      case rel => exact ⟨k + 1, by omega, by rw [HN.out], by go_num, hb.trans (hb2.mono hsz)⟩
      case measure => simp [intOf]; omega
    · have : k = s.length := by omega
      subst this
      rw [List.take_length] at *
      have hx := bits_xor_u32_nat 4294967295 (s.foldl take8 4294967295) (by omega) hl
      generalize s.foldl take8 4294967295 = m at *
      go_wp2
      go_ret
      refine ⟨?_, hb⟩
      rw [HS.out, Nat.xor_comm, ← hx]
      rfl

theorem sum_any (s : Bytes) (hs : s.length ≤ 1048576) (w : World) :
    Calls Tryz.prog 256 #[str s] w fun e w' => e = .returned (.int .u32 (crcSum s)) ∧ Below w.heap.size w w' := by
  have HM := Lib.hid (more_any s hs)
  go_enter Tryz.func256, Tryz.ntmps256
  go_wp2_with (go_at_call 295; refine (HM.out _).mono ?_; rintro e w' ⟨rfl, hb2⟩)
  go_ret
  exact ⟨rfl, hb2⟩

set_option maxHeartbeats 4000000 in
theorem four_any (n : Nat) (hn : n < 4294967296) (w : World) :
    Calls Tryz.prog 255 #[.int .u32 n] w fun e w' => e = .returned (.agg (u8s (four n)).toArray) ∧ Below w.heap.size w w' := by
  go_enter Tryz.func255, Tryz.ntmps255
  have h : ∀ j, j < 4 → n / 256 ^ j < 4294967296 := fun j hj => Nat.lt_of_le_of_lt (Nat.div_le_self _ _) hn
  go_wp2
  have hb : Below w.heap.size w ((w.alloc (.cells #[.int .u8 0, .int .u8 0, .int .u8 0, .int .u8 0] 432)).alloc (.cells #[.int .u8 0, .int .u8 0, .int .u8 0, .int .u8 0] 432)) :=
    ((Below.refl _ _).alloc (Nat.le_refl _) _).alloc (by simp) _
  have hc1 : Cells ((w.alloc (.cells #[.int .u8 0, .int .u8 0, .int .u8 0, .int .u8 0] 432)).alloc (.cells #[.int .u8 0, .int .u8 0, .int .u8 0, .int .u8 0] 432)) w.heap.size 432 #[.int .u8 0, .int .u8 0, .int .u8 0, .int .u8 0] := (cells_new w _ _).alloc _
  have hc2 : Cells ((w.alloc (.cells #[.int .u8 0, .int .u8 0, .int .u8 0, .int .u8 0] 432)).alloc (.cells #[.int .u8 0, .int .u8 0, .int .u8 0, .int .u8 0] 432)) (w.heap.size + 1) 432 #[.int .u8 0, .int .u8 0, .int .u8 0, .int .u8 0] := by
    have := cells_new (w.alloc (.cells #[.int .u8 0, .int .u8 0, .int .u8 0, .int .u8 0] 432)) #[.int .u8 0, .int .u8 0, .int .u8 0, .int .u8 0] 432
    rwa [World.size_alloc] at this
  generalize (w.alloc (.cells #[.int .u8 0, .int .u8 0, .int .u8 0, .int .u8 0] 432)).alloc (.cells #[.int .u8 0, .int .u8 0, .int .u8 0, .int .u8 0] 432) = W at hb hc1 hc2 ⊢
  go_loopw [5] (fun i wr => ∃ k : Nat, k ≤ 4 ∧ i = .int .i64 k ∧ Below w.heap.size w wr ∧ Cells wr w.heap.size 432 #[.int .u8 0, .int .u8 0, .int .u8 0, .int .u8 0] ∧
    Cells wr (w.heap.size + 1) 432 ((u8s (four n)).take k ++ List.replicate (4 - k) (Value.int .u8 0)).toArray) (fun i _ => 4 - (intOf i).toNat)
  case atStart => exact ⟨0, by omega, rfl, hb, hc1, hc2⟩
  case round =>
    obtain ⟨k, hk, hi, hb, hc1, hc2⟩ := hrel
    have hk9 : k = 4 ∨ k = 0 ∨ k = 1 ∨ k = 2 ∨ k = 3 := by omega
    rcases hk9 with rfl | hk9
    · simp at hi
      subst hi
      simp [u8s, four] at hc2
      have f := hc2.frozen
      have f1 := hc1.frozen
      have e0 := hc2.cell 0
      have e1 := hc2.cell 1
      have e2 := hc2.cell 2
      have e3 := hc2.cell 3
      have d0 := hc1.cell 0
      have d1 := hc1.cell 1
      have d2 := hc1.cell 2
      have d3 := hc1.cell 3
      simp at e0 e1 e2 e3 d0 d1 d2 d3
      go_wp2
      have h9 := (((hc1.set 0 (Value.int .u8 ((n : Int) % 256))).set 1 (Value.int .u8 ((n : Int) / 256 % 256))).set 2 (Value.int .u8 ((n : Int) / 65536 % 256))).set 3 (Value.int .u8 ((n : Int) / 16777216 % 256))
      simp at h9
      refine bodyPost_ret_by (results_cell_row rfl _ _ w.heap.size 432 _ (0, 0) _ rfl h9 Tryz.underlying432 rfl (by kernel_rfl)) rfl ⟨?_, (((hb.setCell (by simp) _).setCell (by simp) _).setCell (by simp) _).setCell (by simp) _⟩
      simp [u8s, four]
    · rcases hk9 with rfl | rfl | rfl | rfl
      · simp at hi
        subst hi
        simp [u8s, four] at hc2
        have f := hc2.frozen
        have e0 := hc2.cell 0
        have e1 := hc2.cell 1
        have e2 := hc2.cell 2
        have e3 := hc2.cell 3
        simp at e0 e1 e2 e3
        go_wp2
        refine ⟨⟨1, by omega, rfl, hb.setCell (by simp) _, hc1.other (by simp) _, ?_⟩, by simp [intOf]⟩
        have h5 := hc2.set 0 (Value.int .u8 ((n : Int) % 256))
        skip
        simp [u8s, four] at h5 ⊢
        skip
        exact h5
      · simp at hi
        subst hi
        simp [u8s, four] at hc2
        have f := hc2.frozen
        have e0 := hc2.cell 0
        have e1 := hc2.cell 1
        have e2 := hc2.cell 2
        have e3 := hc2.cell 3
        simp at e0 e1 e2 e3
        go_wp2
        refine ⟨⟨2, by omega, rfl, hb.setCell (by simp) _, hc1.other (by simp) _, ?_⟩, by simp [intOf]⟩
        have h5 := hc2.set 1 (Value.int .u8 ((n : Int) / 256 % 256))
        skip
        simp [u8s, four] at h5 ⊢
        skip
        exact h5
      · simp at hi
        subst hi
        simp [u8s, four] at hc2
        have f := hc2.frozen
        have e0 := hc2.cell 0
        have e1 := hc2.cell 1
        have e2 := hc2.cell 2
        have e3 := hc2.cell 3
        simp at e0 e1 e2 e3
        go_wp2
        refine ⟨⟨3, by omega, rfl, hb.setCell (by simp) _, hc1.other (by simp) _, ?_⟩, by simp [intOf]⟩
        have h5 := hc2.set 2 (Value.int .u8 ((n : Int) / 65536 % 256))
        skip
        simp [u8s, four] at h5 ⊢
        skip
        exact h5
      · simp at hi
        subst hi
        simp [u8s, four] at hc2
        have f := hc2.frozen
        have e0 := hc2.cell 0
        have e1 := hc2.cell 1
        have e2 := hc2.cell 2
        have e3 := hc2.cell 3
        simp at e0 e1 e2 e3
        go_wp2
        refine ⟨⟨4, by omega, rfl, hb.setCell (by simp) _, hc1.other (by simp) _, ?_⟩, by simp [intOf]⟩
        have h5 := hc2.set 3 (Value.int .u8 ((n : Int) / 16777216))
        have e5 : (n : Int) / 16777216 % 256 = (n : Int) / 16777216 := by omega
        simp [u8s, four] at h5 ⊢
        rw [e5]
        exact h5

end Go.Proofs.YtlkbahknmbgjmaaGreat
