/-
  The interpreter's functions and calls.
  No conditions.
-/
import Derived.Test.YtlkbahknmbgjmaaGreatEy
import Derived.Conc.MuLone
namespace Go.Proofs.YtlkbahknmbgjmaaGreat.Ev
open Go

section
variable {P : Program}

theorem args_get : ∀ (l : List AV) (i : Nat) (fr : F) (t : Nat), i + l.length ≤ 256 → t < 256 → (fget t).get (args l i fr) = if i ≤ t ∧ t < i + l.length then l[t - i]?.getD .top else (fget t).get fr
  | [], i, fr, t, _, _ => by
    rw [if_neg (by simp only [List.length_nil]; omega)]; rfl
  | v :: l, i, fr, t, hi, ht => by
    show (fget t).get (args l (Nat.succ i) ((fput i).put v fr)) = _
    simp only [List.length_cons] at hi
    rw [args_get l (i + 1) _ t (by omega) ht]
    by_cases e : t = i
    · subst e
      rw [if_neg (by omega), if_pos (by simp only [List.length_cons]; omega), fget_fput t ht, Nat.sub_self]; rfl
    · by_cases h : i + 1 ≤ t ∧ t < i + 1 + l.length
      · rw [if_pos h, if_pos (by simp only [List.length_cons]; omega)]
        obtain ⟨j, rfl⟩ : ∃ j, t = i + 1 + j := ⟨t - (i + 1), by omega⟩
        rw [show i + 1 + j - (i + 1) = j by omega, show i + 1 + j - i = j + 1 by omega]; rfl
      · rw [if_neg h, if_neg (by simp only [List.length_cons]; omega), fget_fput_ne i t (by omega) ht e]

theorem St.start {nt : Nat} (hnt : nt ≤ 250) {μ : Mp} {l : List AV} {vs : List Value} (hl : l.length ≤ nt) (h : VRs μ l vs) :
    St nt μ (args l 0 (F.all (.tup []))) { tmps := ⟨vs⟩ ++ Array.replicate (nt - (⟨vs⟩ : Array Value).size) undef, defers := [] } := by
  have hlen := h.length
  refine ⟨fun t ht => ?_, by simp; omega, ?_⟩
  · rw [args_get l 0 _ t (by omega) (by omega)]
    by_cases e : t < l.length
    · rw [if_pos (by omega)]
      obtain ⟨v, hv, hr⟩ := h.get (i := t) (x := l[t]) (by simp)
      rw [Nat.sub_zero, List.getElem?_eq_getElem e]
      have : (⟨vs⟩ ++ Array.replicate (nt - (⟨vs⟩ : Array Value).size) undef : Array Value).getD t undef = v := by
        rw [Array.getD_eq_getD_getElem?, Array.getElem?_append_left (by simp; omega)]
        have : (⟨vs⟩ : Array Value)[t]? = some v := by simpa using hv
        rw [this]; rfl
      rw [this]; exact hr
    · rw [if_neg (by omega), fget_all t (by omega)]
      have : (⟨vs⟩ ++ Array.replicate (nt - (⟨vs⟩ : Array Value).size) undef : Array Value).getD t undef = undef := by
        rw [Array.getD_eq_getD_getElem?, Array.getElem?_append_right (by simp; omega), Array.getElem?_replicate]
        split <;> rfl
      rw [this]; exact .tup .nil
  · rw [args_get l 0 _ 255 (by omega) (by omega), if_neg (by omega), fget_all 255 (by omega)]
    exact .nil

/-- A deferred call that does nothing as long as nothing goes wrong. -/
def Harm (P : Program) (g : FuncId) : Prop := ∀ (v : Value) (w : World), (callFunc g #[v]).run P w = .ok (.enter g #[v]) w ∧ CallsD P g #[v] .returning w fun e u w' => (∃ v, e = .returned v) ∧ u = .returning ∧ w' = w

theorem leave_ok {hl : FuncId → Bool} (hhl : ∀ g, hl g = true → Harm P g) {nt : Nat} (fn : Func) {fr : F} {h : Hp} {k : AV → Hp → Out} {out : Out} (e : leave P hl fn.results.toList k fr h = out) (hn : out ≠ .no) :
    ∃ v, k v h = out ∧ ∀ (μ : Mp) (w : World) (a : Act) (R : Ending → World → Prop), Rel μ h w → St nt μ fr a → (∀ u, VR μ v u → R (.returned u) w) → Leaves P fn a.tmps R a.defers .returning w := by
  unfold leave at e
  generalize hx : (fget 255).get fr = x at e
  have fin : ∀ (r : (res P fn.results.toList).of fr h (fun v => k v h) = out), ∃ v, k v h = out ∧ ∀ (μ : Mp) (w : World) (a : Act) (R : Ending → World → Prop), Rel μ h w → St nt μ fr a → (∀ u, VR μ v u → R (.returned u) w) → Leaves P fn a.tmps R [] .returning w := fun r => by
    obtain ⟨v, e1, H⟩ := res_ok fn r hn
    refine ⟨v, e1, fun μ w a R hrel s hR => ?_⟩
    obtain ⟨u, h1, h2⟩ := H μ w a hrel s.frr
    exact ⟨u, h1, hR u h2⟩
  cases x with
  | tup l =>
    cases l with
    | nil =>
      obtain ⟨v, e1, H⟩ := fin e
      refine ⟨v, e1, fun μ w a R hrel s hR => ?_⟩
      have hdr := s.dr
      rw [hx] at hdr
      generalize hd : a.defers = ds at hdr
      cases hdr with
      | nil => exact H μ w a R hrel s hR
    | cons _ _ => exact absurd e.symm hn
  | fn g l b =>
    obtain ⟨hg, e1⟩ := bif_yes e hn
    simp only [Bool.and_eq_true] at hg
    have hlen : l.length + b.length = 1 := by rw [← len_eq, ← len_eq]; exact Nat.eq_of_beq_eq_true hg.2
    obtain ⟨v, e2, H⟩ := fin e1
    refine ⟨v, e2, fun μ w a R hrel s hR => ?_⟩
    have hdr := s.dr
    rw [hx] at hdr
    generalize hd : a.defers = ds at hdr
    cases hdr with
    | one h1 h2 =>
      rename_i as cap
      have hal : (as ++ cap).length = 1 := by rw [List.length_append, ← h1.length, ← h2.length]; exact hlen
      obtain ⟨z, hz⟩ := List.length_eq_one_iff.1 hal
      have hz' : (⟨as⟩ ++ ⟨cap⟩ : Array Value) = #[z] := by apply Array.ext'; simpa using hz
      obtain ⟨h3, h4⟩ := hhl g hg.1 z w
      rw [← hz'] at h3 h4
      refine leaves_cons (by simp) h3 (h4.mono fun e u w' ⟨⟨v, he⟩, hu, hw⟩ => ?_)
      subst he hu hw
      exact H μ w' a R hrel s hR
  | _ => exact absurd e.symm hn

theorem func_ok (hm : P.follows .mixedOrders = true) {hl : FuncId → Bool} (hhl : ∀ g, hl g = true → Harm P g) {ca : Ca} (hca : CaOk P ca) (lf : Nat) {g : FuncId} {fn : Func} (hf : P.funcs[g]? = some fn)
    (hname : ∀ c, fn.body = some c → (fn.name == "runtime.NumGoroutine") = false) {l : List AV} {h : Hp} {k : AV → Hp → Out} {out : Out} (e : (func P hl lf fn).of ca l h k = out) (hn : out ≠ .no) :
    ∃ v h', k v h' = out ∧ CallOk P g l h v h' := by
  unfold func at e
  cases hb : fn.body with
  | none => rw [hb] at e; exact absurd e.symm hn
  | some c =>
    rw [hb] at e
    cases hnt : Nat.ble fn.ntmps 250 with
    | false => rw [hnt] at e; exact absurd e.symm hn
    | true =>
      rw [hnt] at e
      have hnt : fn.ntmps ≤ 250 := Nat.le_of_ble_eq_true hnt
      have e : bif? (((code P fn.ntmps lf c).run ca (args l 0 (F.all (.tup []))) h).back (leave P hl fn.results.toList k)) .no (Nat.ble (len l) fn.ntmps) = out := e
      obtain ⟨hle, e1⟩ := bif_yes e hn
      have hle := Nat.le_of_ble_eq_true hle
      rw [len_eq] at hle
      -- what follows from an end
      have fin : ∀ fr h', (∀ (μ : Mp) (w : World) (a : Act) (Q : Exit → Act → World → Prop), Rel μ h w → St fn.ntmps μ (args l 0 (F.all (.tup []))) a → (∀ ν a' u, Stp μ h w ν h' u → St fn.ntmps ν fr a' → Q .normal a' u ∧ Q .ret a' u) → c.wp P Q a w) →
          leave P hl fn.results.toList k fr h' = out → ∃ v h', k v h' = out ∧ CallOk P g l h v h' := fun fr h' hc hlv => by
        obtain ⟨v, e2, H⟩ := leave_ok (nt := fn.ntmps) hhl fn hlv hn
        refine ⟨v, h', e2, fun μ w as hrel hv => ?_⟩
        unfold CallWp
        rw [MuLone.run_callFunc_enter hf (hname c hb) hb]
        refine calls_of_wp_defers hf hb (hc μ w _ _ hrel (St.start hnt hle hv) fun ν a' u s r => ?_)
        exact ⟨H ν u a' _ s.rel r fun z hz => ⟨z, rfl, ν, s, hz⟩, H ν u a' _ s.rel r fun z hz => ⟨z, rfl, ν, s, hz⟩⟩
      have hcode := fun Q => code_ok hm hca hnt lf c Q (args l 0 (F.all (.tup []))) h
      generalize (code P fn.ntmps lf c).run ca (args l 0 (F.all (.tup []))) h = o at e1 hcode
      cases o with
      | no => exact absurd e1.symm hn
      | exi id fr h' => exact absurd e1.symm hn
      | nrm fr h' => exact fin fr h' (fun μ w a Q hrel s hQ => hcode Q μ a w hrel s fun ν a' u s' r => (hQ ν a' u s' r).1) e1
      | ret fr h' => exact fin fr h' (fun μ w a Q hrel s hQ => hcode Q μ a w hrel s fun ν a' u s' r => (hQ ν a' u s' r).2) e1

/-- What a summary must keep. -/
def PrimOk (P : Program) (pr : FuncId → Option Fc) : Prop :=
  ∀ g fc, pr g = some fc → ∀ ca, CaOk P ca → ∀ l h k out, fc.of ca l h k = out → out ≠ .no → ∃ v h', k v h' = out ∧ CallOk P g l h v h'

theorem calls_ok (hm : P.follows .mixedOrders = true) {hl : FuncId → Bool} (hhl : ∀ g, hl g = true → Harm P g) {pr : FuncId → Option Fc} (hpr : PrimOk P pr) (lf : Nat)
    (hname : ∀ (g : Nat) fn c, P.funcs[g]? = some fn → fn.body = some c → (fn.name == "runtime.NumGoroutine") = false) : ∀ d, CaOk P (calls P hl pr lf d)
  | 0 => fun g l h q out e hn => absurd e.symm hn
  | d + 1 => fun g l h q out e hn => by
    have ih := calls_ok hm hhl hpr lf hname d
    have e : (fnAt P hl pr lf g).of (calls P hl pr lf d) l h q = out := e
    unfold fnAt at e
    cases hp : pr g with
    | some fc => rw [hp] at e; exact hpr g fc hp _ ih l h q out e hn
    | none =>
      rw [hp] at e
      cases hf : nth2 (fcs P) g with
      | none => simp only [hf] at e; exact absurd e.symm hn
      | some fn =>
        simp only [hf] at e
        have hf' : P.funcs[g]? = some fn := by
          have := nth2_chunks 64 P.funcs.toList g fn hf
          simpa using this
        exact func_ok hm hhl ih lf hf' (fun c hc => hname g fn c hf' hc) e hn

/-- Of nothing nothing is known. -/
theorem Rel.start (w : World) : Rel (fun _ => none) h0 w :=
  ⟨fun b m h => (by cases h), fun b k m _ h => (by cases h), fun b c k l m n _ _ h => (by cases h), by show (0 : Nat) ≤ 65536; omega, fun b _ _ => gets_all Bo .no 8 b⟩

end
end Go.Proofs.YtlkbahknmbgjmaaGreat.Ev
