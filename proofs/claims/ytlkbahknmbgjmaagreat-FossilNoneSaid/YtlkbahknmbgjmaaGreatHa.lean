/-
  The interpreter with its summaries, and the state behind Begun(Echo()), written out.
  No conditions.
-/
import Derived.Test.YtlkbahknmbgjmaaGreatGb
import Derived.Test.YtlkbahknmbgjmaaGreatGh
import Derived.Test.YtlkbahknmbgjmaaGreatFg
namespace Go.Proofs.YtlkbahknmbgjmaaGreat.Ev
open Go

noncomputable def bts (l : List Nat) : List AV := List.rec (motive := fun _ => List AV) [] (fun n _ ih => byteAV n :: ih) l
noncomputable def litQ (α : Type) (d : α) (n : Nat) (l : List (Nat × α)) : QT α n := List.rec (motive := fun _ => QT α n) (QT.all d n) (fun p _ t => (puts α n p.1).put p.2 t) l

noncomputable def prL : List (Nat × Fc) := [(184, pIns), (234, pInsE), (256, pSum), (217, pBits), (92, pFrom), (321, pCmp), (334, pTwo), (355, pApart), (237, pU), (94, pI), (177, pGet)]
noncomputable def prF (f : FuncId) : Option Fc := pick f prL
theorem prL_ok : ∀ p ∈ prL, FcOk Tryz.prog p.1 p.2 := fun p hp => by
  simp only [prL, List.mem_cons, List.not_mem_nil, or_false] at hp
  rcases hp with rfl | rfl | rfl | rfl | rfl | rfl | rfl | rfl | rfl | rfl | rfl
  · exact pIns_ok
  · exact pInsE_ok
  · exact pSum_ok
  · exact pBits_ok
  · exact pFrom_ok
  · exact pCmp_ok
  · exact pTwo_ok
  · exact pApart_ok
  · exact pU_ok
  · exact pI_ok
  · exact pGet_ok
noncomputable def ca0 : Ca := calls Tryz.prog idle prF 100000 300
theorem ca0_ok : CaOk Tryz.prog ca0 := calls_ok follows_ok idle_ok (prims_ok prL_ok) 100000 names_ok 300

noncomputable def s0F : List (Nat × AV) := [(0, .bool false)]

noncomputable def s1F : List (Nat × AV) := [(1, .ptr 183 0)]
noncomputable def s1N : Nat := 4288
noncomputable def s1B : List (Nat × Blk) := [
  (1, ⟨8, 4, false, false, .li ([.int .i64 (.ofNat 1), .int .i64 (.ofNat 5), .int .i64 (.ofNat 1), .int .i64 (.ofNat 0), .int .i64 (.ofNat 12), .int .i64 (.ofNat 5), .int .i64 (.ofNat 6), .int .i64 (.ofNat 0)])⟩),
  (2, ⟨12, 4, false, false, .li ([.int .i64 (.ofNat 13), .int .i64 (.ofNat 4), .int .i64 (.ofNat 5), .int .i64 (.ofNat 0), .int .i64 (.ofNat 3), .int .i64 (.ofNat 4), .int .i64 (.ofNat 4), .int .i64 (.ofNat 0), .int .i64 (.ofNat 14), .int .i64 (.ofNat 5), .int .i64 (.ofNat 4), .int .i64 (.ofNat 0)])⟩),
  (3, ⟨1, 1, false, false, .li ([.flt .f64 4607182418800017408])⟩),
  (4, ⟨2, 1, false, false, .li ([.slc 1 0 2 2 true, .slc 2 0 3 3 true])⟩),
  (5, ⟨1, 1, false, false, .li ([.int .i64 (.ofNat 0)])⟩),
  (6, ⟨4, 2, false, false, .li ([.int .i64 (.ofNat 0), .nils, .int .i64 (.ofNat 1), .slc 5 0 1 1 true])⟩),
  (7, ⟨6, 3, false, false, .li ([.flt .f64 4617315517961601024, .int .i64 (.ofNat 0), .int .i64 (.ofNat 5), .flt .f64 4613937818241073152, .int .i64 (.ofNat 0), .int .i64 (.ofNat 3)])⟩),
  (9, ⟨76928, 64, false, false, .ch 64 (litQ (List AV) (bts [0, 0, 0, 0, 0, 0, 0, 0, 0, 0, 0, 0, 0, 0, 0, 0, 0, 0, 0, 0, 0, 0, 0, 0, 0, 0, 0, 0, 0, 0, 0, 0, 0, 0, 0, 0, 0, 0, 0, 0, 0, 0, 0, 0, 0, 0, 0, 0, 0, 0, 0, 0, 0, 0, 0, 0, 0, 0, 0, 0, 0, 0, 0, 0]) 6 [(0, bts [128, 0, 0, 0, 0, 0, 0, 1, 92, 61, 43, 104, 0, 0, 0, 0, 0, 0, 0, 0, 0, 0, 0, 0, 0, 0, 0, 0, 0, 0, 0, 0, 0, 0, 0, 0, 0, 0, 0, 0, 0, 0, 0, 0, 0, 0, 0, 0, 0, 0, 0, 0, 0, 0, 0, 0, 128, 0, 0, 0, 0, 0, 0, 1]), (2, bts [235, 155, 190, 125, 128, 0, 0, 0, 0, 0, 0, 0, 128, 0, 0, 0, 0, 0, 0, 2, 0, 0, 0, 2, 0, 1, 0, 231, 0, 231, 0, 1, 0, 0, 0, 0, 0, 0, 0, 0, 0, 0, 0, 0, 0, 0, 0, 0, 0, 0, 0, 0, 0, 0, 0, 0, 0, 0, 0, 0, 0, 0, 0, 0]), (5, bts [0, 0, 0, 0, 0, 0, 0, 0, 0, 0, 0, 0, 0, 0, 0, 0, 0, 0, 0, 0, 0, 0, 0, 0, 0, 0, 0, 0, 0, 0, 0, 0, 0, 0, 0, 0, 0, 0, 0, 0, 0, 0, 0, 0, 0, 0, 0, 0, 0, 0, 0, 0, 0, 0, 0, 0, 0, 0, 0, 0, 0, 0, 0, 1]), (6, bts [221, 173, 105, 68, 128, 0, 0, 0, 0, 0, 0, 1, 128, 0, 0, 0, 0, 0, 0, 2, 0, 0, 0, 2, 0, 5, 0, 109, 0, 231, 0, 1, 0, 209, 0, 22, 0, 179, 0, 30, 0, 148, 0, 31, 0, 109, 0, 39, 0, 0, 0, 0, 0, 0, 0, 0, 0, 0, 0, 0, 0, 0, 0, 0]), (8, bts [0, 0, 0, 0, 0, 2, 69, 1, 0, 0, 0, 128, 0, 0, 0, 0, 0, 0, 0, 1, 128, 0, 0, 0, 0, 0, 0, 0, 128, 0, 0, 0, 0, 0, 0, 0, 128, 0, 0, 0, 0, 0, 0, 0, 2, 69, 0, 0, 0, 0, 128, 0, 0, 0, 0, 0, 0, 0, 0, 128, 0, 0, 0, 0]), (9, bts [0, 0, 0, 128, 0, 0, 0, 0, 0, 0, 0, 2, 68, 1, 0, 0, 1, 128, 0, 0, 0, 0, 0, 0, 0, 128, 0, 0, 0, 0, 0, 0, 0, 128, 0, 0, 0, 0, 0, 0, 0, 2, 68, 0, 0, 0, 0, 128, 0, 0, 0, 0, 0, 0, 0, 128, 0, 0, 0, 0, 0, 0, 0, 1]), (10, bts [195, 202, 55, 154, 128, 0, 0, 0, 0, 0, 0, 2, 128, 0, 0, 0, 0, 0, 0, 2, 0, 0, 0, 2, 0, 4, 0, 134, 0, 231, 0, 1, 0, 191, 0, 40, 0, 151, 0, 40, 0, 134, 0, 17, 0, 0, 0, 0, 0, 0, 0, 0, 0, 0, 0, 0, 0, 0, 0, 0, 0, 0, 0, 0]), (12, bts [0, 0, 0, 0, 0, 0, 0, 0, 0, 0, 0, 0, 0, 0, 0, 0, 0, 0, 0, 0, 0, 0, 0, 0, 0, 0, 0, 0, 0, 0, 6, 72, 0, 115, 101, 110, 116, 0, 0, 128, 0, 0, 0, 0, 0, 0, 2, 10, 70, 0, 128, 0, 0, 0, 0, 0, 0, 1, 0, 0, 0, 192, 8, 0]), (13, bts [0, 0, 0, 0, 0, 0, 128, 0, 0, 0, 0, 0, 0, 1, 0, 128, 0, 0, 0, 0, 0, 0, 3, 10, 70, 0, 128, 0, 0, 0, 0, 0, 0, 0, 0, 0, 0, 192, 20, 0, 0, 0, 0, 0, 0, 0, 128, 0, 0, 0, 0, 0, 0, 0, 0, 128, 0, 0, 0, 0, 0, 0, 5, 1])])⟩),
  (10, ⟨76928, 64, false, false, .ch 64 (litQ (List AV) (bts [0, 0, 0, 0, 0, 0, 0, 0, 0, 0, 0, 0, 0, 0, 0, 0, 0, 0, 0, 0, 0, 0, 0, 0, 0, 0, 0, 0, 0, 0, 0, 0, 0, 0, 0, 0, 0, 0, 0, 0, 0, 0, 0, 0, 0, 0, 0, 0, 0, 0, 0, 0, 0, 0, 0, 0, 0, 0, 0, 0, 0, 0, 0, 0]) 6 [])⟩),
  (11, ⟨1202, 1, false, false, .l (litQ AV (.bool false) 6 [(2, .bool true), (3, .bool true), (4, .bool true), (5, .bool true), (6, .bool true), (7, .bool true), (8, .bool true), (9, .bool true), (10, .bool true), (11, .bool true), (12, .bool true), (13, .bool true)])⟩),
  (12, ⟨6, 6, false, false, .li ([.slc 9 0 1202 1202 true, .slc 10 0 1202 1202 true, .slc 11 0 1202 1202 true, .int .i64 (.ofNat 0), .int .i64 (.ofNat 15), .bool false])⟩),
  (13, ⟨8, 8, false, false, .li ([.ptr 12 0, .ptr 15 0, .slc 4201 0 3 3 false, .nils, .nils, .int .i64 (.ofNat 1), .int .i64 (.ofNat 0), .bool false])⟩),
  (14, ⟨300, 1, false, false, .li ([.int .i64 (.ofNat 2), .int .i64 (.ofNat 2), .int .i64 (.ofNat 2), .int .i64 (.ofNat 0), .int .i64 (.ofNat 0), .int .i64 (.ofNat 0), .int .i64 (.ofNat 0), .int .i64 (.ofNat 0), .int .i64 (.ofNat 0), .int .i64 (.ofNat 0), .int .i64 (.ofNat 0), .int .i64 (.ofNat 0), .int .i64 (.ofNat 0), .int .i64 (.ofNat 0), .int .i64 (.ofNat 0), .int .i64 (.ofNat 0), .int .i64 (.ofNat 0), .int .i64 (.ofNat 0), .int .i64 (.ofNat 0), .int .i64 (.ofNat 0), .int .i64 (.ofNat 0), .int .i64 (.ofNat 0), .int .i64 (.ofNat 0), .int .i64 (.ofNat 0), .int .i64 (.ofNat 0), .int .i64 (.ofNat 0), .int .i64 (.ofNat 0), .int .i64 (.ofNat 0), .int .i64 (.ofNat 0), .int .i64 (.ofNat 0), .int .i64 (.ofNat 0), .int .i64 (.ofNat 0), .int .i64 (.ofNat 0), .int .i64 (.ofNat 0), .int .i64 (.ofNat 0), .int .i64 (.ofNat 0), .int .i64 (.ofNat 0), .int .i64 (.ofNat 0), .int .i64 (.ofNat 0), .int .i64 (.ofNat 0), .int .i64 (.ofNat 0), .int .i64 (.ofNat 0), .int .i64 (.ofNat 0), .int .i64 (.ofNat 0), .int .i64 (.ofNat 0), .int .i64 (.ofNat 0), .int .i64 (.ofNat 0), .int .i64 (.ofNat 0), .int .i64 (.ofNat 0), .int .i64 (.ofNat 0), .int .i64 (.ofNat 0), .int .i64 (.ofNat 0), .int .i64 (.ofNat 0), .int .i64 (.ofNat 0), .int .i64 (.ofNat 0), .int .i64 (.ofNat 0), .int .i64 (.ofNat 0), .int .i64 (.ofNat 0), .int .i64 (.ofNat 0), .int .i64 (.ofNat 0), .int .i64 (.ofNat 0), .int .i64 (.ofNat 0), .int .i64 (.ofNat 0), .int .i64 (.ofNat 0), .int .i64 (.ofNat 0), .int .i64 (.ofNat 0), .int .i64 (.ofNat 0), .int .i64 (.ofNat 0), .int .i64 (.ofNat 0), .int .i64 (.ofNat 0), .int .i64 (.ofNat 0), .int .i64 (.ofNat 0), .int .i64 (.ofNat 0), .int .i64 (.ofNat 0), .int .i64 (.ofNat 0), .int .i64 (.ofNat 0), .int .i64 (.ofNat 0), .int .i64 (.ofNat 0), .int .i64 (.ofNat 0), .int .i64 (.ofNat 0), .int .i64 (.ofNat 0), .int .i64 (.ofNat 0), .int .i64 (.ofNat 0), .int .i64 (.ofNat 0), .int .i64 (.ofNat 0), .int .i64 (.ofNat 0), .int .i64 (.ofNat 0), .int .i64 (.ofNat 0), .int .i64 (.ofNat 0), .int .i64 (.ofNat 0), .int .i64 (.ofNat 0), .int .i64 (.ofNat 0), .int .i64 (.ofNat 0), .int .i64 (.ofNat 0), .int .i64 (.ofNat 0), .int .i64 (.ofNat 0), .int .i64 (.ofNat 0), .int .i64 (.ofNat 0), .int .i64 (.ofNat 0), .int .i64 (.ofNat 0), .int .i64 (.ofNat 0), .int .i64 (.ofNat 0), .int .i64 (.ofNat 0), .int .i64 (.ofNat 0), .int .i64 (.ofNat 0), .int .i64 (.ofNat 0), .int .i64 (.ofNat 0), .int .i64 (.ofNat 0), .int .i64 (.ofNat 0), .int .i64 (.ofNat 0), .int .i64 (.ofNat 0), .int .i64 (.ofNat 0), .int .i64 (.ofNat 0), .int .i64 (.ofNat 0), .int .i64 (.ofNat 0), .int .i64 (.ofNat 0), .int .i64 (.ofNat 0), .int .i64 (.ofNat 0), .int .i64 (.ofNat 0), .int .i64 (.ofNat 0), .int .i64 (.ofNat 0), .int .i64 (.ofNat 0), .int .i64 (.ofNat 0), .int .i64 (.ofNat 0), .int .i64 (.ofNat 0), .int .i64 (.ofNat 0), .int .i64 (.ofNat 0), .int .i64 (.ofNat 0), .int .i64 (.ofNat 0), .int .i64 (.ofNat 0), .int .i64 (.ofNat 0), .int .i64 (.ofNat 0), .int .i64 (.ofNat 0), .int .i64 (.ofNat 0), .int .i64 (.ofNat 0), .int .i64 (.ofNat 0), .int .i64 (.ofNat 0), .int .i64 (.ofNat 0), .int .i64 (.ofNat 0), .int .i64 (.ofNat 0), .int .i64 (.ofNat 0), .int .i64 (.ofNat 0), .int .i64 (.ofNat 0), .int .i64 (.ofNat 0), .int .i64 (.ofNat 0), .int .i64 (.ofNat 0), .int .i64 (.ofNat 0), .int .i64 (.ofNat 0), .int .i64 (.ofNat 0), .int .i64 (.ofNat 0), .int .i64 (.ofNat 0), .int .i64 (.ofNat 0), .int .i64 (.ofNat 0), .int .i64 (.ofNat 0), .int .i64 (.ofNat 0), .int .i64 (.ofNat 0), .int .i64 (.ofNat 0), .int .i64 (.ofNat 0), .int .i64 (.ofNat 0), .int .i64 (.ofNat 0), .int .i64 (.ofNat 0), .int .i64 (.ofNat 0), .int .i64 (.ofNat 0), .int .i64 (.ofNat 0), .int .i64 (.ofNat 0), .int .i64 (.ofNat 0), .int .i64 (.ofNat 0), .int .i64 (.ofNat 0), .int .i64 (.ofNat 0), .int .i64 (.ofNat 0), .int .i64 (.ofNat 0), .int .i64 (.ofNat 0), .int .i64 (.ofNat 0), .int .i64 (.ofNat 0), .int .i64 (.ofNat 0), .int .i64 (.ofNat 0), .int .i64 (.ofNat 0), .int .i64 (.ofNat 0), .int .i64 (.ofNat 0), .int .i64 (.ofNat 0), .int .i64 (.ofNat 0), .int .i64 (.ofNat 0), .int .i64 (.ofNat 0), .int .i64 (.ofNat 0), .int .i64 (.ofNat 0), .int .i64 (.ofNat 0), .int .i64 (.ofNat 0), .int .i64 (.ofNat 0), .int .i64 (.ofNat 0), .int .i64 (.ofNat 0), .int .i64 (.ofNat 0), .int .i64 (.ofNat 0), .int .i64 (.ofNat 0), .int .i64 (.ofNat 0), .int .i64 (.ofNat 0), .int .i64 (.ofNat 0), .int .i64 (.ofNat 0), .int .i64 (.ofNat 0), .int .i64 (.ofNat 0), .int .i64 (.ofNat 0), .int .i64 (.ofNat 0), .int .i64 (.ofNat 0), .int .i64 (.ofNat 0), .int .i64 (.ofNat 0), .int .i64 (.ofNat 0), .int .i64 (.ofNat 0), .int .i64 (.ofNat 0), .int .i64 (.ofNat 0), .int .i64 (.ofNat 0), .int .i64 (.ofNat 0), .int .i64 (.ofNat 0), .int .i64 (.ofNat 0), .int .i64 (.ofNat 0), .int .i64 (.ofNat 0), .int .i64 (.ofNat 0), .int .i64 (.ofNat 0), .int .i64 (.ofNat 0), .int .i64 (.ofNat 0), .int .i64 (.ofNat 0), .int .i64 (.ofNat 0), .int .i64 (.ofNat 0), .int .i64 (.ofNat 0), .int .i64 (.ofNat 0), .int .i64 (.ofNat 0), .int .i64 (.ofNat 0), .int .i64 (.ofNat 0), .int .i64 (.ofNat 0), .int .i64 (.ofNat 0), .int .i64 (.ofNat 0), .int .i64 (.ofNat 0), .int .i64 (.ofNat 0), .int .i64 (.ofNat 0), .int .i64 (.ofNat 0), .int .i64 (.ofNat 0), .int .i64 (.ofNat 0), .int .i64 (.ofNat 0), .int .i64 (.ofNat 0), .int .i64 (.ofNat 0), .int .i64 (.ofNat 0), .int .i64 (.ofNat 0), .int .i64 (.ofNat 0), .int .i64 (.ofNat 0), .int .i64 (.ofNat 0), .int .i64 (.ofNat 0), .int .i64 (.ofNat 0), .int .i64 (.ofNat 0), .int .i64 (.ofNat 0), .int .i64 (.ofNat 0), .int .i64 (.ofNat 0), .int .i64 (.ofNat 0), .int .i64 (.ofNat 0), .int .i64 (.ofNat 0), .int .i64 (.ofNat 0), .int .i64 (.ofNat 0), .int .i64 (.ofNat 0), .int .i64 (.ofNat 0), .int .i64 (.ofNat 0), .int .i64 (.ofNat 0), .int .i64 (.ofNat 0), .int .i64 (.ofNat 0), .int .i64 (.ofNat 0), .int .i64 (.ofNat 0), .int .i64 (.ofNat 0), .int .i64 (.ofNat 0), .int .i64 (.ofNat 0), .int .i64 (.ofNat 0), .int .i64 (.ofNat 0), .int .i64 (.ofNat 0), .int .i64 (.ofNat 0), .int .i64 (.ofNat 0), .int .i64 (.ofNat 0), .int .i64 (.ofNat 0), .int .i64 (.ofNat 0), .int .i64 (.ofNat 0), .int .i64 (.ofNat 0), .int .i64 (.ofNat 0), .int .i64 (.ofNat 0), .int .i64 (.ofNat 0), .int .i64 (.ofNat 0), .int .i64 (.ofNat 0), .int .i64 (.ofNat 0), .int .i64 (.ofNat 0), .int .i64 (.ofNat 0), .int .i64 (.ofNat 0), .int .i64 (.ofNat 0), .int .i64 (.ofNat 0), .int .i64 (.ofNat 0), .int .i64 (.ofNat 0), .int .i64 (.ofNat 0), .int .i64 (.ofNat 0), .int .i64 (.ofNat 0), .int .i64 (.ofNat 0), .int .i64 (.ofNat 0), .int .i64 (.ofNat 0), .int .i64 (.ofNat 0), .int .i64 (.ofNat 0), .int .i64 (.ofNat 0), .int .i64 (.ofNat 0), .int .i64 (.ofNat 0), .int .i64 (.ofNat 0)])⟩),
  (15, ⟨1, 1, false, false, .li ([.slc 14 0 300 300 true])⟩),
  (98, ⟨3, 3, false, false, .li ([.ptr 13 0, .slc 113 0 5 5 false, .int .i64 (.ofNat 0)])⟩),
  (113, ⟨25, 5, true, false, .m (litQ AV (.top) 4 [(0, .int .i64 (.ofNat 0)), (1, .str [0, 3, 0, 215, 0, 231, 0, 1, 0, 228, 0, 3, 0, 215, 0, 13, 0, 0, 0, 0, 0, 0, 0, 0, 0, 0, 0, 0, 0, 0, 0, 0, 0, 0, 0, 0, 0, 0, 0, 0, 0, 0, 0, 0, 0, 0, 0, 0, 0, 0, 0, 0, 0, 0, 0, 0, 0, 0, 0, 0, 0, 0, 0, 0, 0, 0, 0, 0, 0, 0, 0, 0, 0, 0, 0, 0, 0, 0, 0, 0, 0, 0, 0, 0, 0, 0, 0, 0, 0, 0, 0, 0, 0, 0, 0, 0, 0, 0, 0, 0, 0, 0, 0, 0, 0, 0, 0, 0, 0, 0, 0, 0, 0, 0, 0, 0, 0, 0, 0, 0, 0, 0, 0, 0, 0, 0, 0, 0, 0, 0, 0, 0, 0, 0, 0, 0, 0, 0, 0, 0, 0, 0, 0, 0, 0, 0, 0, 0, 0, 0, 0, 0, 0, 0, 0, 0, 0, 0, 0, 0, 0, 0, 0, 0, 0, 0, 0, 0, 0, 0, 0, 0, 0, 0, 0, 0, 0, 0, 0, 0, 0, 0, 0, 0, 0, 0, 0, 0, 0, 0, 0, 0, 0, 0, 0, 0, 0, 0, 0, 0, 0, 0, 0, 0, 0, 0, 0, 0, 0, 0, 0, 0, 0, 0, 0, 10, 70, 0, 128, 0, 0, 0, 0, 0, 0, 0, 0, 3, 0, 0, 2, 2]), (2, .int .i64 (.ofNat 0)), (3, .bool true), (4, .bool true), (5, .int .i64 (.negSucc 0)), (6, .str []), (7, .int .i64 (.ofNat 0)), (8, .bool false), (9, .bool false), (10, .int .i64 (.negSucc 0)), (11, .str []), (12, .int .i64 (.ofNat 0)), (13, .bool false), (14, .bool false), (15, .int .i64 (.negSucc 0)), (16, .str []), (17, .int .i64 (.ofNat 0)), (18, .bool false), (19, .bool false), (20, .int .i64 (.negSucc 0)), (21, .str []), (22, .int .i64 (.ofNat 0)), (23, .bool false), (24, .bool false)])⟩),
  (114, ⟨1, 1, false, false, .li ([.ptr 98 0])⟩),
  (181, ⟨3, 3, false, false, .li ([.ptr 114 0, .ptr 98 0, .bool true])⟩),
  (182, ⟨1, 1, false, false, .li ([.ptr 181 0])⟩),
  (183, ⟨11, 11, false, false, .li ([.ptr 181 0, .int .i64 (.ofNat 0), .flt .f64 4626322717216342016, .slc 3 0 1 1 true, .slc 4 0 2 2 true, .slc 6 0 2 2 true, .slc 7 0 2 2 true, .slc 1086 0 2 2 false, .ptr 182 0, .ptr 185 0, .bool false])⟩),
  (185, ⟨2, 2, false, false, .li ([.slc 199 0 2 2 false, .slc 213 0 2 2 false])⟩),
  (186, ⟨3, 3, false, false, .li ([.ptr 191 0, .nils, .nils])⟩),
  (189, ⟨2, 2, false, false, .li ([.int .i64 (.ofNat 0), .nils])⟩),
  (190, ⟨1, 1, false, false, .li ([.str []])⟩),
  (191, ⟨11, 11, false, false, .li ([.int .i64 (.ofNat 0), .flt .f64 4626322717216342016, .slc 3 0 1 1 true, .slc 4 0 2 2 true, .slc 6 0 2 2 true, .slc 7 0 2 2 true, .int .i64 (.ofNat 0), .ptr 189 0, .str [], .int .i64 (.ofNat 0), .slc 190 0 1 1 true])⟩),
  (193, ⟨3, 3, false, false, .li ([.ptr 198 0, .nils, .nils])⟩),
  (196, ⟨2, 2, false, false, .li ([.int .i64 (.ofNat 1), .nils])⟩),
  (197, ⟨1, 1, false, false, .li ([.str []])⟩),
  (198, ⟨11, 11, false, false, .li ([.int .i64 (.ofNat 0), .flt .f64 4626322717216342016, .slc 3 0 1 1 true, .slc 4 0 2 2 true, .slc 6 0 2 2 true, .slc 7 0 2 2 true, .int .i64 (.ofNat 1), .ptr 196 0, .str [], .int .i64 (.ofNat 0), .slc 197 0 1 1 true])⟩),
  (199, ⟨2, 1, true, false, .li ([.ptr 186 0, .ptr 193 0])⟩),
  (213, ⟨12, 6, true, false, .li ([.flt .f64 4617315517961601024, .int .i64 (.negSucc 0), .int .i64 (.ofNat 0), .int .i64 (.ofNat 0), .int .i64 (.ofNat 5), .bool false, .flt .f64 4613937818241073152, .int .i64 (.negSucc 0), .int .i64 (.ofNat 1), .int .i64 (.ofNat 0), .int .i64 (.ofNat 3), .bool false])⟩),
  (237, ⟨1, 1, true, false, .li ([.flt .f64 4607182418800017408])⟩),
  (239, ⟨8, 4, true, false, .li ([.int .i64 (.ofNat 1), .int .i64 (.ofNat 5), .int .i64 (.ofNat 1), .int .i64 (.ofNat 0), .int .i64 (.ofNat 12), .int .i64 (.ofNat 5), .int .i64 (.ofNat 6), .int .i64 (.ofNat 0)])⟩),
  (242, ⟨12, 4, true, false, .li ([.int .i64 (.ofNat 13), .int .i64 (.ofNat 4), .int .i64 (.ofNat 5), .int .i64 (.ofNat 0), .int .i64 (.ofNat 3), .int .i64 (.ofNat 4), .int .i64 (.ofNat 4), .int .i64 (.ofNat 0), .int .i64 (.ofNat 14), .int .i64 (.ofNat 5), .int .i64 (.ofNat 4), .int .i64 (.ofNat 0)])⟩),
  (243, ⟨2, 1, true, false, .li ([.slc 239 0 2 2 false, .slc 242 0 3 3 false])⟩),
  (249, ⟨1, 1, true, false, .li ([.int .i64 (.ofNat 0)])⟩),
  (250, ⟨4, 2, true, false, .li ([.int .i64 (.ofNat 0), .nils, .int .i64 (.ofNat 1), .slc 249 0 1 1 false])⟩),
  (251, ⟨6, 3, true, false, .li ([.flt .f64 4617315517961601024, .int .i64 (.ofNat 0), .int .i64 (.ofNat 5), .flt .f64 4613937818241073152, .int .i64 (.ofNat 0), .int .i64 (.ofNat 3)])⟩),
  (252, ⟨10, 10, false, false, .li ([.ptr 181 0, .int .i64 (.ofNat 0), .flt .f64 4626322717216342016, .slc 237 0 1 1 false, .slc 243 0 2 2 false, .slc 250 0 2 2 false, .slc 251 0 2 2 false, .int .i64 (.ofNat 0), .ptr 253 0, .ptr 254 0])⟩),
  (253, ⟨2, 2, false, false, .li ([.ptr 181 0, .int .i64 (.ofNat 0)])⟩),
  (254, ⟨2, 2, false, false, .li ([.ptr 181 0, .int .i64 (.ofNat 0)])⟩),
  (255, ⟨4, 4, false, false, .li ([.ptr 252 0, .ptr 256 0, .ptr 257 0, .ptr 258 0])⟩),
  (256, ⟨3, 3, false, false, .li ([.ptr 181 0, .int .i64 (.ofNat 1), .int .i64 (.ofNat 0)])⟩),
  (257, ⟨3, 3, false, false, .li ([.ptr 181 0, .int .i64 (.ofNat 2), .int .i64 (.ofNat 0)])⟩),
  (258, ⟨1, 1, false, false, .li ([.ptr 181 0])⟩),
  (527, ⟨1, 1, true, false, .li ([.flt .f64 4607182418800017408])⟩),
  (529, ⟨8, 4, true, false, .li ([.int .i64 (.ofNat 1), .int .i64 (.ofNat 5), .int .i64 (.ofNat 1), .int .i64 (.ofNat 0), .int .i64 (.ofNat 12), .int .i64 (.ofNat 5), .int .i64 (.ofNat 6), .int .i64 (.ofNat 0)])⟩),
  (532, ⟨12, 4, true, false, .li ([.int .i64 (.ofNat 13), .int .i64 (.ofNat 4), .int .i64 (.ofNat 5), .int .i64 (.ofNat 0), .int .i64 (.ofNat 3), .int .i64 (.ofNat 4), .int .i64 (.ofNat 4), .int .i64 (.ofNat 0), .int .i64 (.ofNat 14), .int .i64 (.ofNat 5), .int .i64 (.ofNat 4), .int .i64 (.ofNat 0)])⟩),
  (533, ⟨2, 1, true, false, .li ([.slc 529 0 2 2 false, .slc 532 0 3 3 false])⟩),
  (539, ⟨1, 1, true, false, .li ([.int .i64 (.ofNat 0)])⟩),
  (540, ⟨4, 2, true, false, .li ([.int .i64 (.ofNat 0), .nils, .int .i64 (.ofNat 1), .slc 539 0 1 1 false])⟩),
  (541, ⟨6, 3, true, false, .li ([.flt .f64 4617315517961601024, .int .i64 (.ofNat 0), .int .i64 (.ofNat 5), .flt .f64 4613937818241073152, .int .i64 (.ofNat 0), .int .i64 (.ofNat 3)])⟩),
  (542, ⟨10, 10, false, false, .li ([.ptr 181 0, .int .i64 (.ofNat 0), .flt .f64 4626322717216342016, .slc 527 0 1 1 false, .slc 533 0 2 2 false, .slc 540 0 2 2 false, .slc 541 0 2 2 false, .int .i64 (.ofNat 1), .ptr 543 0, .ptr 544 0])⟩),
  (543, ⟨2, 2, false, false, .li ([.ptr 181 0, .int .i64 (.ofNat 1)])⟩),
  (544, ⟨2, 2, false, false, .li ([.ptr 181 0, .int .i64 (.ofNat 1)])⟩),
  (545, ⟨4, 4, false, false, .li ([.ptr 542 0, .ptr 546 0, .ptr 547 0, .ptr 548 0])⟩),
  (546, ⟨3, 3, false, false, .li ([.ptr 181 0, .int .i64 (.ofNat 1), .int .i64 (.ofNat 1)])⟩),
  (547, ⟨3, 3, false, false, .li ([.ptr 181 0, .int .i64 (.ofNat 2), .int .i64 (.ofNat 1)])⟩),
  (548, ⟨1, 1, false, false, .li ([.ptr 181 0])⟩),
  (1086, ⟨2, 1, true, false, .li ([.ptr 255 0, .ptr 545 0])⟩),
  (4201, ⟨3, 1, true, false, .li ([.int .i64 (.ofNat 0), .int .i64 (.ofNat 1), .int .i64 (.ofNat 2)])⟩)]

end Go.Proofs.YtlkbahknmbgjmaaGreat.Ev
