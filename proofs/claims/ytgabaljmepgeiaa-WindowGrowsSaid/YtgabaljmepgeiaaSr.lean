/-
  The times in order: of a list of kept times there is one sorted arrangement.
  No conditions but that each time is a word of 64 bits.
-/
import Derived.Test.YtgabaljmepgeiaaTm
import Derived.Shelf.SlSortCmp.NoneTotal
namespace Go.Proofs.Ytgabaljmepgeiaa
open Go.RowKit Go.Sort Go.Proofs

/-- A time that is kept. -/
def Nm (x : Nat) : Prop := isNum x = true ∧ x < 18446744073709551616 ∧ x ≠ 9223372036854775808

theorem rk_inj {x y : Nat} (hx : Nm x) (hy : Nm y) (h : rk x = rk y) : x = y := by
  obtain ⟨_, h1, h2⟩ := hx
  obtain ⟨_, h3, h4⟩ := hy
  unfold rk sgn rung at h
  rcases Nat.lt_or_ge x 9223372036854775808 with a | a <;> rcases Nat.lt_or_ge y 9223372036854775808 with b | b
  · rw [if_neg (by simp; omega), if_neg (by simp; omega)] at h; omega
  · rw [if_neg (by simp; omega), if_pos (by simp; omega)] at h; omega
  · rw [if_pos (by simp; omega), if_neg (by simp; omega)] at h; omega
  · rw [if_pos (by simp; omega), if_pos (by simp; omega)] at h; omega

theorem fo_rk {x y : Nat} (hx : isNum x = true) (hy : isNum y = true) : fo x y = some (compare (rk x) (rk y)) := order_rk hx hy

theorem fo_lt {x y : Nat} (hx : isNum x = true) (hy : isNum y = true) : (fo x y == some .lt) = decide (rk x < rk y) := by
  rw [fo_rk hx hy, cmp_int]
  by_cases h : rk x < rk y
  · rw [if_pos h]; simp [h]
  · rw [if_neg h]; split <;> simp [h]

theorem fo_gt {x y : Nat} (hx : isNum x = true) (hy : isNum y = true) : (fo x y == some .gt) = decide (rk y < rk x) := by
  rw [fo_rk hx hy, cmp_int]
  by_cases h : rk x < rk y
  · rw [if_pos h]; simp; omega
  · rw [if_neg h]
    by_cases h2 : rk x = rk y
    · rw [if_pos h2]; simp; omega
    · rw [if_neg h2]; simp; omega

theorem fo_eq {x y : Nat} (hx : isNum x = true) (hy : isNum y = true) : (fo x y == some .eq) = decide (rk x = rk y) := by
  rw [fo_rk hx hy, cmp_int]
  by_cases h : rk x < rk y
  · rw [if_pos h]; simp; omega
  · rw [if_neg h]
    by_cases h2 : rk x = rk y
    · rw [if_pos h2]; simp [h2]
    · rw [if_neg h2]; simp; omega

theorem fo_none_l {x y : Nat} (h : isNum x = false) : fo x y = none := order_nan_left h
theorem fo_none_r {x y : Nat} (h : isNum y = false) : fo x y = none := order_nan_right h

theorem nrm_nm {b r : Nat} (hb : b < 18446744073709551616) (h : nrm b = some r) : Nm r := by
  unfold nrm at h
  rw [fo_self] at h
  cases hn : isNum b
  · rw [hn] at h; cases h
  · rw [hn, if_pos rfl, fo_eq hn (by decide)] at h
    by_cases h0 : rk b = rk 0
    · rw [if_pos (by simpa using h0)] at h
      cases h; exact ⟨by decide, by omega, by omega⟩
    · rw [if_neg (by simpa using h0)] at h
      cases h
      exact ⟨hn, hb, fun e => h0 (by rw [e]; decide)⟩

theorem tms_nm {D : List Nat} (h : ∀ b ∈ D, b < 18446744073709551616) : ∀ x ∈ tms D, Nm x := fun x hx => by
  obtain ⟨b, hb, hr⟩ := List.mem_filterMap.1 hx
  exact nrm_nm (h b hb) hr

/-- In which order stamp.Times lays floats: what is none behind all. -/
def key (x : Nat) : Int := if isNum x then rk x else 9223372036854775808

theorem rk_lt {x : Nat} (h : isNum x = true) : rk x < 9223372036854775808 := by
  have : rung x ≤ 9218868437227405312 := by simpa [isNum] using h
  unfold rk; split <;> omega

theorem tmC_lt (x y : Nat) : ltOf tmC x y = decide (key x < key y) := by
  unfold ltOf tmC cmpC key
  rw [fo_self_ne, fo_self_ne]
  cases hx : isNum x <;> cases hy : isNum y
  · simp
  · have := rk_lt hy; simp; omega
  · have := rk_lt hx; simp; omega
  · rw [fo_lt hx hy, fo_gt hx hy]
    by_cases h : rk x < rk y
    · simp [h]
    · by_cases h2 : rk y < rk x <;> simp [h, h2]

theorem swoT : SWO (ltOf tmC) where
  irrefl x := by rw [tmC_lt]; simp
  trans x y z h1 h2 := by rw [tmC_lt] at *; simp at *; omega
  ntrans x y z h1 h2 := by rw [tmC_lt] at *; simp at *; omega

/-- The times of a history, in order. -/
def srt (D : List Nat) : List Nat := (tms D).mergeSort fun x y => decide (key x ≤ key y)

theorem srt_perm (D : List Nat) : (srt D).Perm (tms D) := List.mergeSort_perm _ _

theorem srt_sorted (D : List Nat) : (srt D).Pairwise fun x y => key x ≤ key y := by
  have h := List.pairwise_mergeSort (le := fun x y => decide (key x ≤ key y)) (fun a b c h1 h2 => by simp at *; omega) (fun a b => by simp; omega) (tms D)
  exact h.imp fun h => by simpa using h

theorem srt_unique {D : List Nat} (hD : ∀ b ∈ D, b < 18446744073709551616) {l : List Nat} (hp : l.Perm (tms D)) (hs : l.Pairwise fun x y => key x ≤ key y) : l = srt D := by
  refine List.Perm.eq_of_pairwise (le := fun x y => key x ≤ key y) ?_ hs (srt_sorted D) (hp.trans (srt_perm D).symm)
  intro a b ha hb h1 h2
  have na := tms_nm hD a (hp.subset ha)
  have nb := tms_nm hD b ((srt_perm D).subset hb)
  refine rk_inj na nb ?_
  unfold key at h1 h2
  rw [na.1, nb.1] at h1 h2
  simp at h1 h2
  omega

theorem srt_of_perm {D E : List Nat} (hD : ∀ b ∈ D, b < 18446744073709551616) (h : E.Perm D) : srt E = srt D :=
  srt_unique hD ((srt_perm E).trans (h.filterMap _)) (srt_sorted E)

/-- What slices.SortFunc leaves is the times in order. -/
theorem srt_of_sort {D : List Nat} (hD : ∀ b ∈ D, b < 18446744073709551616) {d' : Array Nat} (hp : PermIn 0 (tms D).toArray.size (tms D).toArray d') (hs : SortedIn (ltOf tmC) 0 (tms D).toArray.size d') : d'.toList = srt D := by
  obtain ⟨hsz, _, hperm⟩ := hp
  have e1 : d'.extract 0 (tms D).toArray.size = d' := by rw [← hsz]; exact Array.extract_size
  rw [e1, Array.extract_size] at hperm
  refine srt_unique hD hperm ?_
  rw [List.pairwise_iff_getElem]
  intro i j hi hj hij
  have h := hs i j (Nat.zero_le _) hij (by rw [← hsz]; simpa using hj)
  rw [tmC_lt] at h
  rw [getElem!_pos d' j (by simpa using hj), getElem!_pos d' i (by simpa using hi)] at h
  simp at h
  simpa using h

end Go.Proofs.Ytgabaljmepgeiaa
