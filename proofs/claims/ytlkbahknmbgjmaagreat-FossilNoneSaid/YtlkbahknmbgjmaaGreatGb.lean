/-
  A closed call in parts, each from a state that is written out.
  No conditions.
-/
import Derived.Test.YtlkbahknmbgjmaaGreatGa
namespace Go.Proofs.YtlkbahknmbgjmaaGreat.Ev
open Go Go.RowKit

/-! ### The parts of code -/
def hdC : Code → Code
  | .seq x _ => x
  | _ => .skip
def tlC : Code → Code
  | .seq _ y => y
  | _ => .skip
def isSeq : Code → Bool
  | .seq _ _ => true
  | _ => false
def isReg : Code → Bool
  | .region _ _ false => true
  | _ => false
def opsC : Code → Array Oper
  | .region _ ops _ => ops
  | _ => #[]
def bodyC (f : Func) : Code := match f.body with
  | some c => c
  | none => .skip

noncomputable def isRet (o : Out) : Bool := Out.rec (motive := fun _ => Bool) false (fun _ _ => false) (fun _ _ _ => false) (fun _ _ => true) o
/-- It hands back b. -/
noncomputable def isB (b : Bool) (v : AV) (_ : Hp) : Out := match v with
  | .bool c => bif? (.ret (F.all .top) h0) .no (c == b)
  | _ => .no
noncomputable def endsB (P : Program) (hl : FuncId → Bool) (f : Func) (b : Bool) (o : Out) : Bool := Out.rec (motive := fun _ => Bool) false (fun _ _ => false) (fun _ _ _ => false) (fun fr h => isRet (leave P hl f.results.toList (isB b) fr h)) o

section
variable {P : Program} {nt : Nat} {w0 : World} {Q : Exit → Act → World → Prop} {ca : Ca} {fr : F} {g : Hp} {a : Act} {u : World}

theorem code_told (hm : P.follows .mixedOrders = true) (hca : CaOk P ca) (hnt : nt ≤ 250) (lf : Nat) {c : Code} (s : Sit nt w0 fr g a u) (e : Told nt w0 Q ((code P nt lf c).run ca fr g)) : c.wp P Q a u :=
  part_run (code_ok hm hca hnt lf c Q) s e

theorem seq_part (hm : P.follows .mixedOrders = true) (hca : CaOk P ca) (hnt : nt ≤ 250) (lf : Nat) {c : Code} (hs : isSeq c = true) (s : Sit nt w0 fr g a u) {fs : List (Nat × AV)} {n : Nat} {bs : List (Nat × Blk)}
    (h : chk fs n bs ((code P nt lf (hdC c)).run ca fr g) = true) (k : ∀ a u, Sit nt w0 (litF fs) (litH n bs) a u → (tlC c).wp P Q a u) : c.wp P Q a u := by
  cases c with
  | seq x y => exact wp_seq (code_told hm hca hnt lf s (Told.lit h k))
  | _ => cases hs

theorem list_part (hca : CaOk P ca) (hnt : nt ≤ 250) (ops : Array Oper) (l : List Oper) (m : Nat) (s : Sit nt w0 fr g a u) {fs : List (Nat × AV)} {n : Nat} {bs : List (Nat × Blk)}
    (h : chk fs n bs ((opers P nt ops.toList (l.take m)).run ca fr g) = true) (k : ∀ a u, Sit nt w0 (litF fs) (litH n bs) a u → wpList P ops Q (l.drop m) a u) : wpList P ops Q l a u := by
  have := part_run (opers_ok (Q := Exit.then (wpList P ops Q (l.drop m)) Q) hca hnt ops.toList (l.take m)) s (Told.lit h k)
  rw [Array.toArray_toList] at this
  have := wpList_append (l.take m) (l.drop m) a u this
  rwa [List.take_append_drop] at this

theorem list_rest (hca : CaOk P ca) (hnt : nt ≤ 250) (ops : Array Oper) (l : List Oper) (s : Sit nt w0 fr g a u) {fs : List (Nat × AV)} {n : Nat} {bs : List (Nat × Blk)}
    (h : chk fs n bs ((opers P nt ops.toList l).run ca fr g) = true) (k : ∀ a u, Sit nt w0 (litF fs) (litH n bs) a u → Q .normal a u) : wpList P ops Q l a u := by
  have := part_run (opers_ok (Q := Q) hca hnt ops.toList l) s (Told.lit h k)
  rwa [Array.toArray_toList] at this

theorem region_cut {c : Code} (hs : isReg c = true) (h : wpList P (opsC c) Q (opsC c).toList a u) : c.wp P Q a u := by
  cases c with
  | region id ops d =>
    cases d with
    | false => exact wp_region_list h
    | true => cases hs
  | _ => cases hs

theorem seq_cut {c : Code} (hs : isSeq c = true) (h : (hdC c).wp P (Exit.then ((tlC c).wp P Q) Q) a u) : c.wp P Q a u := by
  cases c with
  | seq x y => exact wp_seq h
  | _ => cases hs

theorem last_part (hm : P.follows .mixedOrders = true) (hca : CaOk P ca) (hnt : nt ≤ 250) (lf : Nat) {hl : FuncId → Bool} {f : Func} {b : Bool} {c : Code} (s : Sit nt w0 fr g a u)
    (h : endsB P hl f b ((code P nt lf c).run ca fr g) = true) (fin : ∀ fr h a u, isRet (leave P hl f.results.toList (isB b) fr h) = true → Sit nt w0 fr h a u → Q .ret a u) : c.wp P Q a u := by
  refine code_told hm hca hnt lf s ?_
  generalize (code P nt lf c).run ca fr g = o at h
  cases o with
  | ret fr' g' => exact fun a u s => fin fr' g' a u h s
  | _ => cases h

end

section
variable {P : Program}

theorem Closed.of_parts {hl : FuncId → Bool} (hhl : ∀ g, hl g = true → Harm P g) {g : FuncId} {fn : Func} {b : Bool} (hf : P.funcs[g]? = some fn)
    (hname : (fn.name == "runtime.NumGoroutine") = false) (hb : fn.body = some (bodyC fn)) (hnt : fn.ntmps ≤ 250)
    (H : ∀ (w0 : World) (Q : Exit → Act → World → Prop), (∀ fr h a u, isRet (leave P hl fn.results.toList (isB b) fr h) = true → Sit fn.ntmps w0 fr h a u → Q .ret a u) →
      ∀ a u, Sit fn.ntmps w0 (args [] 0 (F.all (.tup []))) h0 a u → (bodyC fn).wp P Q a u) : Closed P g b := fun w => by
  unfold CallWp
  rw [MuLone.run_callFunc_enter hf hname hb]
  refine calls_of_wp_defers hf hb (H w _ (fun fr h a u hr s => ?_) _ _ (Sit.start _ w (St.start hnt (Nat.zero_le _) .nil)))
  obtain ⟨ν, s, r⟩ := s
  generalize ho : leave P hl fn.results.toList (isB b) fr h = o at hr
  cases o with
  | ret fr' h' =>
    obtain ⟨v, e, H⟩ := leave_ok (nt := fn.ntmps) hhl fn ho (by simp)
    refine H ν u a _ s.rel r fun z hz => ⟨z, rfl, ?_, s.nothing⟩
    cases v with
    | bool c =>
      have e : bif? (.ret (F.all .top) h0) .no (c == b) = .ret fr' h' := e
      obtain ⟨hb, _⟩ := bif_yes e (by simp)
      rw [eq_of_beq hb] at hz
      cases hz; rfl
    | _ => cases e
  | _ => cases hr

end
end Go.Proofs.YtlkbahknmbgjmaaGreat.Ev
