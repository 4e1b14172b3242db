/-
  Functions of the program by laws of their own, as the interpreter takes them. Nothing is proved here.
  No conditions.
-/
import Derived.Test.YtlkbahknmbgjmaaGreatEa
namespace Go.Proofs.YtlkbahknmbgjmaaGreat.Ev
open Go
noncomputable section
/-! ### Functions by their own laws -/
def regOk (n : Int) : Bool := !iLt n (.ofNat 0) && !iLt (.ofNat 7) n
def posOk (n len : Int) : Bool := !iLt n (.ofNat 0) && !iLt len n
/-- model.Ins -/
def insOk (op a b c len : Int) : Bool := match op with
  | .ofNat o => match o with
    | 0 => true
    | 1 => regOk a
    | 2 => regOk a && regOk b
    | 9 => posOk a len
    | 10 => regOk a && posOk b len
    | 11 => regOk a && regOk b
    | 13 => regOk a && regOk b
    | 14 => regOk a && regOk b
    | n => if Nat.ble n 14 then regOk a && regOk b && regOk c else false
  | .negSucc _ => false
def pIns : Fc := ⟨fun _ l h k => match l with
  | [.agg [.int .i64 op, .int .i64 a, .int .i64 b, .int .i64 c], .int .i64 n] => k (.bool (insOk op a b c n)) h
  | _ => .no⟩

def tabN : Nat := 12749536319551302420830055290731983042906869231766370170184255228463894984119587222357463453493748006886229547019502462691509165827871124329361635492757504
def half4 (r : Nat) : Nat := Nat.xor (Nat.shiftRight r 4) (Nat.land (Nat.shiftRight tabN (Nat.mul 32 (Nat.land r 15))) 4294967295)
def crcF (l : List Nat) (r : Nat) : Nat := List.rec (motive := fun _ => Nat → Nat) (fun r => r) (fun b _ ih r => Nat.rec (motive := fun _ => Nat) (ih 0) (fun m _ => ih (Nat.succ m)) (half4 (half4 (Nat.xor r b)))) l r
/-- crc.Sum -/
def pSum : Fc := ⟨fun _ l h k => match l with
  | [.str s] => bif? (k (.int .u32 (.ofNat (Nat.xor (crcF s 4294967295) 4294967295))) h) .no (Nat.ble (sLen s) 1048576)
  | _ => .no⟩

/-- slices.Insert -/
def pInsert (n : Nat) : Fc := ⟨fun _ l h k => match l with
  | [s, .int _ (.ofNat i), v] => src n h s none fun sn cs => src n h v none fun m vs => bif?
      (match s with
        | .nils => regrow n false h m (appL (takeL cs (i * n)) (appL vs (dropL cs (i * n)))) k
        | .slc b o _ cap ex => h.blk? b fun bl => bif?
            (bif? (k (.slc b o (sn + m) cap ex) (h.set b (.of (bl.wth (Cs.puts (appL (takeL cs (i * n)) (appL vs (dropL cs (i * n)))) o bl.cs))))) .no (Nat.ble (o + (sn + m) * n) bl.size))
            (bif? (regrow n bl.sb (drop? h b ex bl.gr) (sn + m) (appL (takeL cs (i * n)) (appL vs (dropL cs (i * n)))) k) .no (moves n sn cap o ex bl)) (Nat.ble (sn + m) cap)
        | _ => .no) .no (Nat.ble i sn && Nat.ble 1 m && small (sn + m) 65536)
  | _ => .no⟩
def pBits : Fc := ⟨fun _ l h k => match l with
    | [.flt .f64 b] => k (.int .u64 (.ofNat b)) h
    | _ => .no⟩
def pFrom : Fc := ⟨fun _ l h k => match l with
    | [.int .u64 (.ofNat b)] => k (.flt .f64 b) h
    | _ => .no⟩
def pCmp : Fc := ⟨fun _ l h k => match l with
    | [.str a, .str b] => k (.int .i64 (sel (.negSucc 0) (sel (.ofNat 0) (.ofNat 1) (sEq a b)) (sLt a b))) h
    | _ => .no⟩
def pair (q : Nat → Nat → Out) (s : List Nat) (i : Nat) : Out :=
  List.rec (motive := fun _ => Nat → Out) (fun _ => .no) (fun b l ih i => Nat.rec (motive := fun _ => Out) (List.rec (motive := fun _ => Out) .no (fun c _ _ => q b c) l) (fun m _ => ih m) i) s i
/-- slots.two -/
def pTwo : Fc := ⟨fun _ l h k => match l with
  | [.str s, .int .i64 (.ofNat i)] => bif? (pair (fun b c => k (.int .i64 (.ofNat (Nat.add (Nat.mul b 256) c))) h) s i) .no (Nat.ble i 1048576)
  | _ => .no⟩
/-- Are two slots apart? -/
def pApart : Fc := ⟨fun _ l h k => match l with
  | [.agg [.int .i64 (.ofNat a), .int .i64 (.ofNat b)], .agg [.int .i64 (.ofNat c), .int .i64 (.ofNat d)]] =>
    bif? (k (.bool (Nat.beq b 0 || Nat.beq d 0 || Nat.ble (Nat.add a b) c || Nat.ble (Nat.add c d) a)) h) .no (Nat.ble (Nat.add a b) 1048576 && Nat.ble (Nat.add c d) 1048576)
  | _ => .no⟩
def nat8 (n : Nat) : List Nat := [Nat.mod (Nat.div n 72057594037927936) 256, Nat.mod (Nat.div n 281474976710656) 256, Nat.mod (Nat.div n 1099511627776) 256, Nat.mod (Nat.div n 4294967296) 256, Nat.mod (Nat.div n 16777216) 256, Nat.mod (Nat.div n 65536) 256, Nat.mod (Nat.div n 256) 256, Nat.mod n 256]
/-- pack.U -/
def pU : Fc := ⟨fun _ l h k => match l with
  | [.int .u64 (.ofNat n)] => bif? (k (.str (nat8 n)) h) .no (Nat.blt n 18446744073709551616)
  | _ => .no⟩
/-- pack.I -/
def pI : Fc := ⟨fun _ l h k => match l with
  | [.int .i64 (.ofNat n)] => bif? (k (.str (nat8 (Nat.add n 9223372036854775808))) h) .no (Nat.blt n 9223372036854775808)
  | [.int .i64 (.negSucc n)] => bif? (k (.str (nat8 (Nat.sub 9223372036854775807 n))) h) .no (Nat.blt n 9223372036854775808)
  | _ => .no⟩
def getNs (l : List Nat) (n : Nat) : Nat := List.rec (motive := fun _ => Nat → Nat) (fun n => n) (fun b _ ih n => ih (Nat.add (Nat.mul n 256) b)) l n
/-- pack.get -/
def pGet : Fc := ⟨fun _ l h k => match l with
  | [.str s] => bif? (k (.int .u64 (.ofNat (getNs s 0))) h) .no (Nat.ble (sLen s) 8)
  | _ => .no⟩

end
end Go.Proofs.YtlkbahknmbgjmaaGreat.Ev
