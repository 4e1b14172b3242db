/-
  What an operation of the interpreter looks at: its operands' slots, and memory.
  No conditions.
-/
import Derived.Test.YtlkbahknmbgjmaaGreatEl
namespace Go.Proofs.YtlkbahknmbgjmaaGreat.Ev
open Go

/-- These operands have the same values. -/
def Alike (fr fr' : F) (l : List Operand) : Prop := ∀ x ∈ l, (opd x).of fr = (opd x).of fr'
theorem Alike.sub {fr fr' : F} {l m : List Operand} (h : Alike fr fr' m) (hs : ∀ x ∈ l, x ∈ m) : Alike fr fr' l := fun x hx => h x (hs x hx)
theorem opds_alike {fr fr' : F} : ∀ {l : List Operand}, Alike fr fr' l → (opds l).of fr = (opds l).of fr'
  | [], _ => rfl
  | x :: l, h => by
    show (opd x).of fr :: (opds l).of fr = (opd x).of fr' :: (opds l).of fr'
    rw [h x List.mem_cons_self, opds_alike (l := l) fun y hy => h y (List.mem_cons_of_mem _ hy)]
theorem parts_alike {fr fr' : F} : ∀ {ps : List (Nat × Operand)}, Alike fr fr' (ps.map (·.2)) → (parts ps).of fr = (parts ps).of fr'
  | [], _ => rfl
  | (i, x) :: l, h => by
    show (i, (opd x).of fr) :: (parts l).of fr = (i, (opd x).of fr') :: (parts l).of fr'
    rw [h x List.mem_cons_self, parts_alike (ps := l) fun y hy => h y (List.mem_cons_of_mem _ hy)]
theorem bound_alike {fr fr' : F} {x : Option Operand} (h : ∀ z, x = some z → (opd z).of fr = (opd z).of fr') (d y : Nat) (q : Nat → Out) : bound (optO x) fr d y q = bound (optO x) fr' d y q := by
  cases x with
  | none => rfl
  | some z =>
    show (((opd z).of fr).nat? fun n => bif? (q n) .no (Nat.ble n y)) = (((opd z).of fr').nat? fun n => bif? (q n) .no (Nat.ble n y))
    rw [h z rfl]
theorem call_args (callee : Callee) (xs : Array Operand) (ts : Array TypeId) : ∀ z ∈ xs.toList, z ∈ (Op.call ⟨callee, xs, ts⟩).operands.toList := fun z hz => by
  cases callee <;> simp [Op.operands, Call.operands] <;> first | exact .inr (by simpa using hz) | (simpa using hz)
theorem call_callee (g : Operand) (xs : Array Operand) (ts : Array TypeId) : g ∈ (Op.call ⟨.value g, xs, ts⟩).operands.toList := by simp [Op.operands, Call.operands]

section
variable {P : Program}

theorem call_rd_alike {callee : Callee} {xs : Array Operand} {ts : Array TypeId} {f : F → Hp → (AV → Out) → Out} (hop : oCall ⟨callee, xs, ts⟩ P = .rd f) {fr fr' : F} (_ : (opds xs.toList).of fr = (opds xs.toList).of fr')
    (_ : ∀ g, callee = .value g → (opd g).of fr = (opd g).of fr') (e3 : ∀ z, z ∈ xs.toList → (opd z).of fr = (opd z).of fr') (h : Hp) (q : AV → Out) : f fr h q = f fr' h q := by
  cases callee with
  | invoke r m => cases hop
  | value g =>
    cases g <;> cases hop
  | builtin b =>
    have h' : oBuiltin b ts.toList xs.toList P = .rd f := hop
    generalize xs.toList = xl at h' e3
    generalize ts.toList = tl at h'
    unfold oBuiltin at h'
    repeat' split at h'
    all_goals first | contradiction | cases h'
    all_goals first | simp only [e3 _ List.mem_cons_self, e3 _ (List.mem_cons_of_mem _ List.mem_cons_self)] | simp only [e3 _ List.mem_cons_self]

theorem call_al_alike {callee : Callee} {xs : Array Operand} {ts : Array TypeId} {f : Nat → F → (AV → Blk → Out) → Out} (hop : oCall ⟨callee, xs, ts⟩ P = .al f) {fr fr' : F} (_ : (opds xs.toList).of fr = (opds xs.toList).of fr')
    (_ : ∀ g, callee = .value g → (opd g).of fr = (opd g).of fr') (e3 : ∀ z, z ∈ xs.toList → (opd z).of fr = (opd z).of fr') (id : Nat) (q : AV → Blk → Out) : f id fr q = f id fr' q := by
  cases callee with
  | invoke r m => cases hop
  | value g =>
    cases g <;> cases hop
  | builtin b =>
    have h' : oBuiltin b ts.toList xs.toList P = .al f := hop
    generalize xs.toList = xl at h' e3
    generalize ts.toList = tl at h'
    unfold oBuiltin at h'
    repeat' split at h'
    all_goals first | contradiction | cases h'
    all_goals first | simp only [e3 _ List.mem_cons_self, e3 _ (List.mem_cons_of_mem _ List.mem_cons_self)] | simp only [e3 _ List.mem_cons_self]

theorem call_wr_alike {callee : Callee} {xs : Array Operand} {ts : Array TypeId} {f : Ca → F → Hp → (AV → Hp → Out) → Out} (hop : oCall ⟨callee, xs, ts⟩ P = .wr f) {fr fr' : F} (e1 : (opds xs.toList).of fr = (opds xs.toList).of fr')
    (e2 : ∀ g, callee = .value g → (opd g).of fr = (opd g).of fr') (e3 : ∀ z, z ∈ xs.toList → (opd z).of fr = (opd z).of fr') (ca : Ca) (h : Hp) (q : AV → Hp → Out) : f ca fr h q = f ca fr' h q := by
  cases callee with
  | invoke r m => cases hop
  | value g =>
    have e4 := e2 g rfl
    by_cases hg : ∃ k, g = .func k
    · obtain ⟨k, rfl⟩ := hg
      have h' : OpC.wr (fun ca fr h q => ca.call k ((opds xs.toList).of fr) h q) = .wr f := hop
      cases h'; simp only [e1]
    · have h' : OpC.wr (fun ca fr h q => ((opd g).of fr).fn? fun k a b => ca.call k (a ++ (opds xs.toList).of fr ++ b) h q) = .wr f := by cases g <;> first | exact hop | exact absurd ⟨_, rfl⟩ hg
      cases h'; simp only [e1, e4]
  | builtin b =>
    have h' : oBuiltin b ts.toList xs.toList P = .wr f := hop
    generalize xs.toList = xl at h' e3
    generalize ts.toList = tl at h'
    unfold oBuiltin at h'
    repeat' split at h'
    all_goals first | contradiction | cases h'
    all_goals first | simp only [e3 _ List.mem_cons_self, e3 _ (List.mem_cons_of_mem _ List.mem_cons_self)] | simp only [e3 _ List.mem_cons_self]

theorem rd_congr {o : Op} {f : F → Hp → (AV → Out) → Out} (hop : opC o P = .rd f) {fr fr' : F} (hA : Alike fr fr' o.operands.toList) (h : Hp) (q : AV → Out) : f fr h q = f fr' h q := by
  cases o with
  | move x =>
    have h' : oMove x P = .rd f := hop
    have e1 := hA x (by simp [Op.operands])
    unfold oMove at h'
    repeat' split at h'
    all_goals first | contradiction | cases h'
    all_goals first | rfl | simp only [e1]
  | assign x =>
    have h' : oMove x P = .rd f := hop
    have e1 := hA x (by simp [Op.operands])
    unfold oMove at h'
    repeat' split at h'
    all_goals first | contradiction | cases h'
    all_goals first | rfl | simp only [e1]
  | pick c x y =>
    have h' : oPick c x y P = .rd f := hop
    have e1 := hA c (by simp [Op.operands])
    have e2 := hA x (by simp [Op.operands])
    have e3 := hA y (by simp [Op.operands])
    unfold oPick at h'
    repeat' split at h'
    all_goals first | contradiction | cases h'
    all_goals first | rfl | simp only [e1, e2, e3]
  | nilCheck x =>
    have h' : oNilCheck x P = .rd f := hop
    have e1 := hA x (by simp [Op.operands])
    unfold oNilCheck at h'
    repeat' split at h'
    all_goals first | contradiction | cases h'
    all_goals first | rfl | simp only [e1]
  | extract x i =>
    have h' : oExtract x i P = .rd f := hop
    have e1 := hA x (by simp [Op.operands])
    unfold oExtract at h'
    repeat' split at h'
    all_goals first | contradiction | cases h'
    all_goals first | rfl | simp only [e1]
  | build t ps =>
    have h' : oBuild t ps P = .rd f := hop
    have e1 := parts_alike (ps := ps.toList) hA
    unfold oBuild at h'
    repeat' split at h'
    all_goals first | contradiction | cases h'
    all_goals first | rfl | simp only [e1]
  | load t x =>
    have h' : oLoad t x P = .rd f := hop
    have e1 := hA x (by simp [Op.operands])
    unfold oLoad at h'
    repeat' split at h'
    all_goals first | contradiction | cases h'
    all_goals first | rfl | simp only [e1]
  | store t x y =>
    have h' : oStore t x y P = .rd f := hop
    have e1 := hA x (by simp [Op.operands])
    have e2 := hA y (by simp [Op.operands])
    unfold oStore at h'
    repeat' split at h'
    all_goals first | contradiction | cases h'
    all_goals first | rfl | simp only [e1, e2]
  | binOp op t x y u =>
    have h' : oBin op t x y u P = .rd f := hop
    have e1 := hA x (by simp [Op.operands])
    have e2 := hA y (by simp [Op.operands])
    unfold oBin eqB eqP eqN at h'
    repeat' split at h'
    all_goals first | contradiction | cases h'
    all_goals first | rfl | simp only [e1, e2]
  | unOp op t x =>
    have h' : oUn op t x P = .rd f := hop
    have e1 := hA x (by simp [Op.operands])
    unfold oUn at h'
    repeat' split at h'
    all_goals first | contradiction | cases h'
    all_goals first | rfl | simp only [e1]
  | convert s t x =>
    have h' : oConv s t x P = .rd f := hop
    have e1 := hA x (by simp [Op.operands])
    unfold oConv at h'
    repeat' split at h'
    all_goals first | contradiction | cases h'
    all_goals first | rfl | simp only [e1]
  | makeFunc g x y =>
    have h' : oMakeFunc g x y P = .rd f := hop
    have e1 := opds_alike (l := x.toList) (hA.sub (by simp [Op.operands]; intro z hz; exact .inl hz))
    have e2 := opds_alike (l := y.toList) (hA.sub (by simp [Op.operands]; intro z hz; exact .inr hz))
    unfold oMakeFunc at h'
    repeat' split at h'
    all_goals first | contradiction | cases h'
    all_goals first | rfl | simp only [e1, e2]
  | slice t x lo hi mx =>
    have h' : oSlice t x lo hi mx P = .rd f := hop
    have e1 := hA x (by simp [Op.operands])
    have e2 := bound_alike (x := lo) (fun z hz => hA z (by simp [Op.operands, hz]))
    have e3 := bound_alike (x := hi) (fun z hz => hA z (by simp [Op.operands, hz]))
    have e4 := bound_alike (x := mx) (fun z hz => hA z (by simp [Op.operands, hz]))
    unfold oSlice at h'
    repeat' split at h'
    all_goals first | contradiction | cases h'
    all_goals first | rfl | simp only [e1, e2, e3, e4, sliceE]
  | fieldAddr t x i =>
    have h' : oFieldAddr t x i P = .rd f := hop
    have e1 := hA x (by simp [Op.operands])
    unfold oFieldAddr at h'
    repeat' split at h'
    all_goals first | contradiction | cases h'
    all_goals first | rfl | simp only [e1]
  | field t x i =>
    have h' : oField t x i P = .rd f := hop
    have e1 := hA x (by simp [Op.operands])
    unfold oField at h'
    repeat' split at h'
    all_goals first | contradiction | cases h'
    all_goals first | rfl | simp only [e1]
  | indexAddr t x i =>
    have h' : oIndexAddr t x i P = .rd f := hop
    have e1 := hA x (by simp [Op.operands])
    have e2 := hA i (by simp [Op.operands])
    unfold oIndexAddr at h'
    repeat' split at h'
    all_goals first | contradiction | cases h'
    all_goals first | rfl | simp only [e1, e2]
  | index t x i =>
    have h' : oIndex t x i P = .rd f := hop
    have e1 := hA x (by simp [Op.operands])
    have e2 := hA i (by simp [Op.operands])
    unfold oIndex at h'
    repeat' split at h'
    all_goals first | contradiction | cases h'
    all_goals first | rfl | simp only [e1, e2]
  | alloc e =>
    have h' : oAlloc e P = .rd f := hop
    unfold oAlloc at h'
    repeat' split at h'
    all_goals first | contradiction | cases h'
    all_goals first | rfl | rfl
  | box e x =>
    have h' : oBox e x P = .rd f := hop
    have e1 := hA x (by simp [Op.operands])
    unfold oBox at h'
    repeat' split at h'
    all_goals first | contradiction | cases h'
    all_goals first | rfl | simp only [e1]
  | buildSlice t n ps =>
    have h' : oBuildSlice t n ps P = .rd f := hop
    have e1 := parts_alike (ps := ps.toList) hA
    unfold oBuildSlice at h'
    repeat' split at h'
    all_goals first | contradiction | cases h'
    all_goals first | rfl | simp only [e1]
  | makeSlice t l c =>
    have h' : oMakeSlice t l c P = .rd f := hop
    have e1 := hA l (by simp [Op.operands])
    have e2 := hA c (by simp [Op.operands])
    unfold oMakeSlice at h'
    repeat' split at h'
    all_goals first | contradiction | cases h'
    all_goals first | rfl | simp only [e1, e2]
  | call c =>
    have h' : oCall c P = .rd f := hop
    obtain ⟨callee, xs, ts⟩ := c
    have e1 := opds_alike (l := xs.toList) (hA.sub (call_args _ _ _))
    have e2 : ∀ g, callee = .value g → (opd g).of fr = (opd g).of fr' := fun g hg => hA g (by subst hg; exact call_callee _ _ _)
    have e3 : ∀ z, z ∈ xs.toList → (opd z).of fr = (opd z).of fr' := fun z hz => hA z (call_args _ _ _ z hz)
    exact call_rd_alike h' e1 e2 e3 h q
  | defer c =>
    have h' : oDefer c P = .rd f := hop
    unfold oDefer at h'
    repeat' split at h'
    all_goals first | contradiction | cases h'
    all_goals first | rfl | rfl
  | _ => cases hop

theorem al_congr {o : Op} {f : Nat → F → (AV → Blk → Out) → Out} (hop : opC o P = .al f) {fr fr' : F} (hA : Alike fr fr' o.operands.toList) (id : Nat) (q : AV → Blk → Out) : f id fr q = f id fr' q := by
  cases o with
  | move x =>
    have h' : oMove x P = .al f := hop
    have e1 := hA x (by simp [Op.operands])
    unfold oMove at h'
    repeat' split at h'
    all_goals first | contradiction | cases h'
    all_goals first | rfl | simp only [e1]
  | assign x =>
    have h' : oMove x P = .al f := hop
    have e1 := hA x (by simp [Op.operands])
    unfold oMove at h'
    repeat' split at h'
    all_goals first | contradiction | cases h'
    all_goals first | rfl | simp only [e1]
  | pick c x y =>
    have h' : oPick c x y P = .al f := hop
    have e1 := hA c (by simp [Op.operands])
    have e2 := hA x (by simp [Op.operands])
    have e3 := hA y (by simp [Op.operands])
    unfold oPick at h'
    repeat' split at h'
    all_goals first | contradiction | cases h'
    all_goals first | rfl | simp only [e1, e2, e3]
  | nilCheck x =>
    have h' : oNilCheck x P = .al f := hop
    have e1 := hA x (by simp [Op.operands])
    unfold oNilCheck at h'
    repeat' split at h'
    all_goals first | contradiction | cases h'
    all_goals first | rfl | simp only [e1]
  | extract x i =>
    have h' : oExtract x i P = .al f := hop
    have e1 := hA x (by simp [Op.operands])
    unfold oExtract at h'
    repeat' split at h'
    all_goals first | contradiction | cases h'
    all_goals first | rfl | simp only [e1]
  | build t ps =>
    have h' : oBuild t ps P = .al f := hop
    have e1 := parts_alike (ps := ps.toList) hA
    unfold oBuild at h'
    repeat' split at h'
    all_goals first | contradiction | cases h'
    all_goals first | rfl | simp only [e1]
  | load t x =>
    have h' : oLoad t x P = .al f := hop
    have e1 := hA x (by simp [Op.operands])
    unfold oLoad at h'
    repeat' split at h'
    all_goals first | contradiction | cases h'
    all_goals first | rfl | simp only [e1]
  | store t x y =>
    have h' : oStore t x y P = .al f := hop
    have e1 := hA x (by simp [Op.operands])
    have e2 := hA y (by simp [Op.operands])
    unfold oStore at h'
    repeat' split at h'
    all_goals first | contradiction | cases h'
    all_goals first | rfl | simp only [e1, e2]
  | binOp op t x y u =>
    have h' : oBin op t x y u P = .al f := hop
    have e1 := hA x (by simp [Op.operands])
    have e2 := hA y (by simp [Op.operands])
    unfold oBin eqB eqP eqN at h'
    repeat' split at h'
    all_goals first | contradiction | cases h'
    all_goals first | rfl | simp only [e1, e2]
  | unOp op t x =>
    have h' : oUn op t x P = .al f := hop
    have e1 := hA x (by simp [Op.operands])
    unfold oUn at h'
    repeat' split at h'
    all_goals first | contradiction | cases h'
    all_goals first | rfl | simp only [e1]
  | convert s t x =>
    have h' : oConv s t x P = .al f := hop
    have e1 := hA x (by simp [Op.operands])
    unfold oConv at h'
    repeat' split at h'
    all_goals first | contradiction | cases h'
    all_goals first | rfl | simp only [e1]
  | makeFunc g x y =>
    have h' : oMakeFunc g x y P = .al f := hop
    have e1 := opds_alike (l := x.toList) (hA.sub (by simp [Op.operands]; intro z hz; exact .inl hz))
    have e2 := opds_alike (l := y.toList) (hA.sub (by simp [Op.operands]; intro z hz; exact .inr hz))
    unfold oMakeFunc at h'
    repeat' split at h'
    all_goals first | contradiction | cases h'
    all_goals first | rfl | simp only [e1, e2]
  | slice t x lo hi mx =>
    have h' : oSlice t x lo hi mx P = .al f := hop
    have e1 := hA x (by simp [Op.operands])
    have e2 := bound_alike (x := lo) (fun z hz => hA z (by simp [Op.operands, hz]))
    have e3 := bound_alike (x := hi) (fun z hz => hA z (by simp [Op.operands, hz]))
    have e4 := bound_alike (x := mx) (fun z hz => hA z (by simp [Op.operands, hz]))
    unfold oSlice at h'
    repeat' split at h'
    all_goals first | contradiction | cases h'
    all_goals first | rfl | simp only [e1, e2, e3, e4, sliceE]
  | fieldAddr t x i =>
    have h' : oFieldAddr t x i P = .al f := hop
    have e1 := hA x (by simp [Op.operands])
    unfold oFieldAddr at h'
    repeat' split at h'
    all_goals first | contradiction | cases h'
    all_goals first | rfl | simp only [e1]
  | field t x i =>
    have h' : oField t x i P = .al f := hop
    have e1 := hA x (by simp [Op.operands])
    unfold oField at h'
    repeat' split at h'
    all_goals first | contradiction | cases h'
    all_goals first | rfl | simp only [e1]
  | indexAddr t x i =>
    have h' : oIndexAddr t x i P = .al f := hop
    have e1 := hA x (by simp [Op.operands])
    have e2 := hA i (by simp [Op.operands])
    unfold oIndexAddr at h'
    repeat' split at h'
    all_goals first | contradiction | cases h'
    all_goals first | rfl | simp only [e1, e2]
  | index t x i =>
    have h' : oIndex t x i P = .al f := hop
    have e1 := hA x (by simp [Op.operands])
    have e2 := hA i (by simp [Op.operands])
    unfold oIndex at h'
    repeat' split at h'
    all_goals first | contradiction | cases h'
    all_goals first | rfl | simp only [e1, e2]
  | alloc e =>
    have h' : oAlloc e P = .al f := hop
    unfold oAlloc at h'
    repeat' split at h'
    all_goals first | contradiction | cases h'
    all_goals first | rfl | rfl
  | box e x =>
    have h' : oBox e x P = .al f := hop
    have e1 := hA x (by simp [Op.operands])
    unfold oBox at h'
    repeat' split at h'
    all_goals first | contradiction | cases h'
    all_goals first | rfl | simp only [e1]
  | buildSlice t n ps =>
    have h' : oBuildSlice t n ps P = .al f := hop
    have e1 := parts_alike (ps := ps.toList) hA
    unfold oBuildSlice at h'
    repeat' split at h'
    all_goals first | contradiction | cases h'
    all_goals first | rfl | simp only [e1]
  | makeSlice t l c =>
    have h' : oMakeSlice t l c P = .al f := hop
    have e1 := hA l (by simp [Op.operands])
    have e2 := hA c (by simp [Op.operands])
    unfold oMakeSlice at h'
    repeat' split at h'
    all_goals first | contradiction | cases h'
    all_goals first | rfl | simp only [e1, e2]
  | call c =>
    have h' : oCall c P = .al f := hop
    obtain ⟨callee, xs, ts⟩ := c
    have e1 := opds_alike (l := xs.toList) (hA.sub (call_args _ _ _))
    have e2 : ∀ g, callee = .value g → (opd g).of fr = (opd g).of fr' := fun g hg => hA g (by subst hg; exact call_callee _ _ _)
    have e3 : ∀ z, z ∈ xs.toList → (opd z).of fr = (opd z).of fr' := fun z hz => hA z (call_args _ _ _ z hz)
    exact call_al_alike h' e1 e2 e3 id q
  | defer c =>
    have h' : oDefer c P = .al f := hop
    unfold oDefer at h'
    repeat' split at h'
    all_goals first | contradiction | cases h'
    all_goals first | rfl | rfl
  | _ => cases hop

theorem wr_congr {o : Op} {f : Ca → F → Hp → (AV → Hp → Out) → Out} (hop : opC o P = .wr f) {fr fr' : F} (hA : Alike fr fr' o.operands.toList) (ca : Ca) (h : Hp) (q : AV → Hp → Out) : f ca fr h q = f ca fr' h q := by
  cases o with
  | move x =>
    have h' : oMove x P = .wr f := hop
    have e1 := hA x (by simp [Op.operands])
    unfold oMove at h'
    repeat' split at h'
    all_goals first | contradiction | cases h'
    all_goals first | rfl | simp only [e1]
  | assign x =>
    have h' : oMove x P = .wr f := hop
    have e1 := hA x (by simp [Op.operands])
    unfold oMove at h'
    repeat' split at h'
    all_goals first | contradiction | cases h'
    all_goals first | rfl | simp only [e1]
  | pick c x y =>
    have h' : oPick c x y P = .wr f := hop
    have e1 := hA c (by simp [Op.operands])
    have e2 := hA x (by simp [Op.operands])
    have e3 := hA y (by simp [Op.operands])
    unfold oPick at h'
    repeat' split at h'
    all_goals first | contradiction | cases h'
    all_goals first | rfl | simp only [e1, e2, e3]
  | nilCheck x =>
    have h' : oNilCheck x P = .wr f := hop
    have e1 := hA x (by simp [Op.operands])
    unfold oNilCheck at h'
    repeat' split at h'
    all_goals first | contradiction | cases h'
    all_goals first | rfl | simp only [e1]
  | extract x i =>
    have h' : oExtract x i P = .wr f := hop
    have e1 := hA x (by simp [Op.operands])
    unfold oExtract at h'
    repeat' split at h'
    all_goals first | contradiction | cases h'
    all_goals first | rfl | simp only [e1]
  | build t ps =>
    have h' : oBuild t ps P = .wr f := hop
    have e1 := parts_alike (ps := ps.toList) hA
    unfold oBuild at h'
    repeat' split at h'
    all_goals first | contradiction | cases h'
    all_goals first | rfl | simp only [e1]
  | load t x =>
    have h' : oLoad t x P = .wr f := hop
    have e1 := hA x (by simp [Op.operands])
    unfold oLoad at h'
    repeat' split at h'
    all_goals first | contradiction | cases h'
    all_goals first | rfl | simp only [e1]
  | store t x y =>
    have h' : oStore t x y P = .wr f := hop
    have e1 := hA x (by simp [Op.operands])
    have e2 := hA y (by simp [Op.operands])
    unfold oStore at h'
    repeat' split at h'
    all_goals first | contradiction | cases h'
    all_goals first | rfl | simp only [e1, e2]
  | binOp op t x y u =>
    have h' : oBin op t x y u P = .wr f := hop
    have e1 := hA x (by simp [Op.operands])
    have e2 := hA y (by simp [Op.operands])
    unfold oBin eqB eqP eqN at h'
    repeat' split at h'
    all_goals first | contradiction | cases h'
    all_goals first | rfl | simp only [e1, e2]
  | unOp op t x =>
    have h' : oUn op t x P = .wr f := hop
    have e1 := hA x (by simp [Op.operands])
    unfold oUn at h'
    repeat' split at h'
    all_goals first | contradiction | cases h'
    all_goals first | rfl | simp only [e1]
  | convert s t x =>
    have h' : oConv s t x P = .wr f := hop
    have e1 := hA x (by simp [Op.operands])
    unfold oConv at h'
    repeat' split at h'
    all_goals first | contradiction | cases h'
    all_goals first | rfl | simp only [e1]
  | makeFunc g x y =>
    have h' : oMakeFunc g x y P = .wr f := hop
    have e1 := opds_alike (l := x.toList) (hA.sub (by simp [Op.operands]; intro z hz; exact .inl hz))
    have e2 := opds_alike (l := y.toList) (hA.sub (by simp [Op.operands]; intro z hz; exact .inr hz))
    unfold oMakeFunc at h'
    repeat' split at h'
    all_goals first | contradiction | cases h'
    all_goals first | rfl | simp only [e1, e2]
  | slice t x lo hi mx =>
    have h' : oSlice t x lo hi mx P = .wr f := hop
    have e1 := hA x (by simp [Op.operands])
    have e2 := bound_alike (x := lo) (fun z hz => hA z (by simp [Op.operands, hz]))
    have e3 := bound_alike (x := hi) (fun z hz => hA z (by simp [Op.operands, hz]))
    have e4 := bound_alike (x := mx) (fun z hz => hA z (by simp [Op.operands, hz]))
    unfold oSlice at h'
    repeat' split at h'
    all_goals first | contradiction | cases h'
    all_goals first | rfl | simp only [e1, e2, e3, e4, sliceE]
  | fieldAddr t x i =>
    have h' : oFieldAddr t x i P = .wr f := hop
    have e1 := hA x (by simp [Op.operands])
    unfold oFieldAddr at h'
    repeat' split at h'
    all_goals first | contradiction | cases h'
    all_goals first | rfl | simp only [e1]
  | field t x i =>
    have h' : oField t x i P = .wr f := hop
    have e1 := hA x (by simp [Op.operands])
    unfold oField at h'
    repeat' split at h'
    all_goals first | contradiction | cases h'
    all_goals first | rfl | simp only [e1]
  | indexAddr t x i =>
    have h' : oIndexAddr t x i P = .wr f := hop
    have e1 := hA x (by simp [Op.operands])
    have e2 := hA i (by simp [Op.operands])
    unfold oIndexAddr at h'
    repeat' split at h'
    all_goals first | contradiction | cases h'
    all_goals first | rfl | simp only [e1, e2]
  | index t x i =>
    have h' : oIndex t x i P = .wr f := hop
    have e1 := hA x (by simp [Op.operands])
    have e2 := hA i (by simp [Op.operands])
    unfold oIndex at h'
    repeat' split at h'
    all_goals first | contradiction | cases h'
    all_goals first | rfl | simp only [e1, e2]
  | alloc e =>
    have h' : oAlloc e P = .wr f := hop
    unfold oAlloc at h'
    repeat' split at h'
    all_goals first | contradiction | cases h'
    all_goals first | rfl | rfl
  | box e x =>
    have h' : oBox e x P = .wr f := hop
    have e1 := hA x (by simp [Op.operands])
    unfold oBox at h'
    repeat' split at h'
    all_goals first | contradiction | cases h'
    all_goals first | rfl | simp only [e1]
  | buildSlice t n ps =>
    have h' : oBuildSlice t n ps P = .wr f := hop
    have e1 := parts_alike (ps := ps.toList) hA
    unfold oBuildSlice at h'
    repeat' split at h'
    all_goals first | contradiction | cases h'
    all_goals first | rfl | simp only [e1]
  | makeSlice t l c =>
    have h' : oMakeSlice t l c P = .wr f := hop
    have e1 := hA l (by simp [Op.operands])
    have e2 := hA c (by simp [Op.operands])
    unfold oMakeSlice at h'
    repeat' split at h'
    all_goals first | contradiction | cases h'
    all_goals first | rfl | simp only [e1, e2]
  | call c =>
    have h' : oCall c P = .wr f := hop
    obtain ⟨callee, xs, ts⟩ := c
    have e1 := opds_alike (l := xs.toList) (hA.sub (call_args _ _ _))
    have e2 : ∀ g, callee = .value g → (opd g).of fr = (opd g).of fr' := fun g hg => hA g (by subst hg; exact call_callee _ _ _)
    have e3 : ∀ z, z ∈ xs.toList → (opd z).of fr = (opd z).of fr' := fun z hz => hA z (call_args _ _ _ z hz)
    exact call_wr_alike h' e1 e2 e3 ca h q
  | defer c =>
    have h' : oDefer c P = .wr f := hop
    unfold oDefer at h'
    repeat' split at h'
    all_goals first | contradiction | cases h'
    all_goals first | rfl | rfl
  | _ => cases hop

/-- Who looks at no memory reads the same in every memory. -/
theorem still_rd {o : Op} {f : F → Hp → (AV → Out) → Out} (h : opC o P = .rd f) (hl : looks P o = false) (fr : F) (h1 h2 : Hp) (q : AV → Out) : f fr h1 q = f fr h2 q := by
  cases o with
  | move x =>
    have h' : oMove x P = .rd f := h
    unfold oMove at h'
    repeat' split at h'
    all_goals first | contradiction | cases h'
    all_goals first | rfl | (simp only [looks, *] at hl; contradiction)
  | assign x =>
    have h' : oMove x P = .rd f := h
    unfold oMove at h'
    repeat' split at h'
    all_goals first | contradiction | cases h'
    all_goals first | rfl | (simp only [looks, *] at hl; contradiction)
  | pick c x y =>
    have h' : oPick c x y P = .rd f := h
    unfold oPick at h'
    repeat' split at h'
    all_goals first | contradiction | cases h'
    all_goals first | rfl | (simp only [looks, *] at hl; contradiction)
  | nilCheck x =>
    have h' : oNilCheck x P = .rd f := h
    unfold oNilCheck at h'
    repeat' split at h'
    all_goals first | contradiction | cases h'
    all_goals first | rfl | (simp only [looks, *] at hl; contradiction)
  | extract x i =>
    have h' : oExtract x i P = .rd f := h
    unfold oExtract at h'
    repeat' split at h'
    all_goals first | contradiction | cases h'
    all_goals first | rfl | (simp only [looks, *] at hl; contradiction)
  | build t ps =>
    have h' : oBuild t ps P = .rd f := h
    unfold oBuild at h'
    repeat' split at h'
    all_goals first | contradiction | cases h'
    all_goals first | rfl | (simp only [looks, *] at hl; contradiction)
  | load t x =>
    have h' : oLoad t x P = .rd f := h
    unfold oLoad at h'
    repeat' split at h'
    all_goals first | contradiction | cases h'
    all_goals first | rfl | (simp only [looks, *] at hl; contradiction)
  | store t x y =>
    have h' : oStore t x y P = .rd f := h
    unfold oStore at h'
    repeat' split at h'
    all_goals first | contradiction | cases h'
    all_goals first | rfl | (simp only [looks, *] at hl; contradiction)
  | binOp op t x y u =>
    have h' : oBin op t x y u P = .rd f := h
    unfold oBin eqB eqP eqN at h'
    repeat' split at h'
    all_goals first | contradiction | cases h'
    all_goals first | rfl | (simp only [looks, *] at hl; contradiction)
  | unOp op t x =>
    have h' : oUn op t x P = .rd f := h
    unfold oUn at h'
    repeat' split at h'
    all_goals first | contradiction | cases h'
    all_goals first | rfl | (simp only [looks, *] at hl; contradiction)
  | convert s t x =>
    have h' : oConv s t x P = .rd f := h
    unfold oConv at h'
    repeat' split at h'
    all_goals first | contradiction | cases h'
    all_goals first | rfl | (simp only [looks, *] at hl; contradiction)
  | makeFunc g x y =>
    have h' : oMakeFunc g x y P = .rd f := h
    unfold oMakeFunc at h'
    repeat' split at h'
    all_goals first | contradiction | cases h'
    all_goals first | rfl | (simp only [looks, *] at hl; contradiction)
  | slice t x lo hi mx =>
    have h' : oSlice t x lo hi mx P = .rd f := h
    unfold oSlice at h'
    repeat' split at h'
    all_goals first | contradiction | cases h'
    all_goals first | rfl | (simp only [looks, *] at hl; contradiction)
  | fieldAddr t x i =>
    have h' : oFieldAddr t x i P = .rd f := h
    unfold oFieldAddr at h'
    repeat' split at h'
    all_goals first | contradiction | cases h'
    all_goals first | rfl | (simp only [looks, *] at hl; contradiction)
  | field t x i =>
    have h' : oField t x i P = .rd f := h
    unfold oField at h'
    repeat' split at h'
    all_goals first | contradiction | cases h'
    all_goals first | rfl | (simp only [looks, *] at hl; contradiction)
  | indexAddr t x i =>
    have h' : oIndexAddr t x i P = .rd f := h
    unfold oIndexAddr at h'
    repeat' split at h'
    all_goals first | contradiction | cases h'
    all_goals first | rfl | (simp only [looks, *] at hl; contradiction)
  | index t x i =>
    have h' : oIndex t x i P = .rd f := h
    unfold oIndex at h'
    repeat' split at h'
    all_goals first | contradiction | cases h'
    all_goals first | rfl | (simp only [looks, *] at hl; contradiction)
  | alloc e =>
    have h' : oAlloc e P = .rd f := h
    unfold oAlloc at h'
    repeat' split at h'
    all_goals first | contradiction | cases h'
    all_goals first | rfl | (simp only [looks, *] at hl; contradiction)
  | box e x =>
    have h' : oBox e x P = .rd f := h
    unfold oBox at h'
    repeat' split at h'
    all_goals first | contradiction | cases h'
    all_goals first | rfl | (simp only [looks, *] at hl; contradiction)
  | buildSlice t n ps =>
    have h' : oBuildSlice t n ps P = .rd f := h
    unfold oBuildSlice at h'
    repeat' split at h'
    all_goals first | contradiction | cases h'
    all_goals first | rfl | (simp only [looks, *] at hl; contradiction)
  | makeSlice t l c =>
    have h' : oMakeSlice t l c P = .rd f := h
    unfold oMakeSlice at h'
    repeat' split at h'
    all_goals first | contradiction | cases h'
    all_goals first | rfl | (simp only [looks, *] at hl; contradiction)
  | call c =>
    have h' : oCall c P = .rd f := h
    unfold oCall oBuiltin at h'
    repeat' split at h'
    all_goals first | contradiction | cases h'
    all_goals first | rfl | (simp only [looks, *] at hl; contradiction)
  | defer c =>
    have h' : oDefer c P = .rd f := h
    unfold oDefer at h'
    repeat' split at h'
    all_goals first | contradiction | cases h'
    all_goals first | rfl | (simp only [looks, *] at hl; contradiction)
  | _ => cases h

end
end Go.Proofs.YtlkbahknmbgjmaaGreat.Ev
