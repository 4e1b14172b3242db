/-
  The interpreter's trees and rows: what is read behind a write.
  No conditions.
-/
import Derived.Test.YtlkbahknmbgjmaaGreatEp
namespace Go.Proofs.YtlkbahknmbgjmaaGreat.Ev
open Go

/-! ### Frames -/
theorem lt16 {x : Nat} (h : x < 16) : x = 0 ∨ x = 1 ∨ x = 2 ∨ x = 3 ∨ x = 4 ∨ x = 5 ∨ x = 6 ∨ x = 7 ∨ x = 8 ∨ x = 9 ∨ x = 10 ∨ x = 11 ∨ x = 12 ∨ x = 13 ∨ x = 14 ∨ x = 15 := by omega

theorem ahs_same {β : Type} (x : Nat) (h : x < 16) (f : β → β) (t : H β) : (ahs x).pr β ((ahs x).up β f t) = f ((ahs x).pr β t) := by
  cases t
  rcases lt16 h with rfl | rfl | rfl | rfl | rfl | rfl | rfl | rfl | rfl | rfl | rfl | rfl | rfl | rfl | rfl | rfl <;> rfl

theorem ahs_other {β : Type} (x y : Nat) (h : x < 16) (h' : y < 16) (hn : y ≠ x) (f : β → β) (t : H β) : (ahs y).pr β ((ahs x).up β f t) = (ahs y).pr β t := by
  cases t
  rcases lt16 h with rfl | rfl | rfl | rfl | rfl | rfl | rfl | rfl | rfl | rfl | rfl | rfl | rfl | rfl | rfl | rfl <;>
    (rcases lt16 h' with rfl | rfl | rfl | rfl | rfl | rfl | rfl | rfl | rfl | rfl | rfl | rfl | rfl | rfl | rfl | rfl <;> first | rfl | exact absurd rfl hn)

theorem ahs_all {β : Type} (x : Nat) (h : x < 16) (v : β) : (ahs x).pr β (H.all v) = v := by
  rcases lt16 h with rfl | rfl | rfl | rfl | rfl | rfl | rfl | rfl | rfl | rfl | rfl | rfl | rfl | rfl | rfl | rfl <;> rfl

theorem fget_def (i : Nat) (t : F) : (fget i).get t = (ahs (i % 16)).pr AV ((ahs (i / 16)).pr (H AV) t) := rfl
theorem fput_def (i : Nat) (v : AV) (t : F) : (fput i).put v t = (ahs (i / 16)).up (H AV) ((ahs (i % 16)).up AV fun _ => v) t := rfl

theorem fget_fput (i : Nat) (h : i < 256) (v : AV) (t : F) : (fget i).get ((fput i).put v t) = v := by
  rw [fget_def, fput_def, ahs_same _ (by omega), ahs_same _ (by omega)]

theorem fget_fput_ne (i j : Nat) (h : i < 256) (h' : j < 256) (hn : j ≠ i) (v : AV) (t : F) : (fget j).get ((fput i).put v t) = (fget j).get t := by
  rw [fget_def, fput_def, fget_def]
  by_cases hd : j / 16 = i / 16
  · rw [hd, ahs_same _ (by omega), ahs_other _ _ (by omega) (by omega) (by omega)]
  · rw [ahs_other _ _ (by omega) (by omega) hd]

theorem fget_all (i : Nat) (h : i < 256) (v : AV) : (fget i).get (F.all v) = v := by
  rw [fget_def, F.all, ahs_all _ (by omega), ahs_all _ (by omega)]

/-! ### Trees -/
theorem lt4 {x : Nat} (h : x < 4) : x = 0 ∨ x = 1 ∨ x = 2 ∨ x = 3 := by omega
theorem acs_same {β : Type} (x : Nat) (h : x < 4) (f : β → β) (t : Q β) : (acs x).pr β ((acs x).up β f t) = f ((acs x).pr β t) := by
  cases t
  rcases lt4 h with rfl | rfl | rfl | rfl <;> rfl
theorem acs_other {β : Type} (x y : Nat) (h : x < 4) (h' : y < 4) (hn : y ≠ x) (f : β → β) (t : Q β) : (acs y).pr β ((acs x).up β f t) = (acs y).pr β t := by
  cases t
  rcases lt4 h with rfl | rfl | rfl | rfl <;> (rcases lt4 h' with rfl | rfl | rfl | rfl <;> first | rfl | exact absurd rfl hn)
theorem acs_all {β : Type} (x : Nat) (h : x < 4) (v : β) : (acs x).pr β ⟨v, v, v, v⟩ = v := by
  rcases lt4 h with rfl | rfl | rfl | rfl <;> rfl

theorem gets_succ (α : Type) (n i : Nat) (t : QT α (n + 1)) : (gets α (n + 1) i).get t = (gets α n (i / 4)).get ((acs (i % 4)).pr (QT α n) t) := rfl
theorem puts_succ (α : Type) (n i : Nat) (v : α) (t : QT α (n + 1)) : (puts α (n + 1) i).put v t = (acs (i % 4)).up (QT α n) ((puts α n (i / 4)).put v) t := rfl

theorem gets_puts (α : Type) : ∀ (n i : Nat) (v : α) (t : QT α n), (gets α n i).get ((puts α n i).put v t) = v
  | 0, _, _, _ => rfl
  | n + 1, i, v, t => (congrArg (gets α n (i / 4)).get (acs_same (β := QT α n) (i % 4) (Nat.mod_lt _ (by omega)) ((puts α n (i / 4)).put v) t)).trans (gets_puts α n (i / 4) v _)

theorem gets_puts_ne (α : Type) : ∀ (n i j : Nat) (v : α) (t : QT α n), i < 4 ^ n → j < 4 ^ n → j ≠ i → (gets α n j).get ((puts α n i).put v t) = (gets α n j).get t
  | 0, i, j, _, _, hi, hj, hn => by simp at hi hj; omega
  | n + 1, i, j, v, t, hi, hj, hn => by
    have e : 4 ^ (n + 1) = 4 ^ n * 4 := rfl
    by_cases hd : j % 4 = i % 4
    · have h1 := acs_same (β := QT α n) (i % 4) (Nat.mod_lt _ (by omega)) ((puts α n (i / 4)).put v) t
      have h2 := gets_puts_ne α n (i / 4) (j / 4) v ((acs (i % 4)).pr (QT α n) t) (by omega) (by omega) (by omega)
      show (gets α n (j / 4)).get ((acs (j % 4)).pr (QT α n) ((acs (i % 4)).up (QT α n) ((puts α n (i / 4)).put v) t)) = (gets α n (j / 4)).get ((acs (j % 4)).pr (QT α n) t)
      rw [hd]
      exact (congrArg _ h1).trans h2
    · exact congrArg (gets α n (j / 4)).get (acs_other (β := QT α n) (i % 4) (j % 4) (Nat.mod_lt _ (by omega)) (Nat.mod_lt _ (by omega)) hd ((puts α n (i / 4)).put v) t)

theorem gets_all (α : Type) (v : α) : ∀ (n i : Nat), (gets α n i).get (QT.all v n) = v
  | 0, _ => rfl
  | n + 1, i => by
    rw [gets_succ]
    have : (acs (i % 4)).pr (QT α n) (QT.all v (n + 1)) = QT.all v n := acs_all _ (Nat.mod_lt _ (by omega)) _
    rw [this, gets_all α v n]

/-! ### Rows -/
theorem len_eq (l : List AV) : len l = l.length := by
  induction l with
  | nil => rfl
  | cons x l ih => exact congrArg Nat.succ ih
theorem sLen_eq (l : List Nat) : sLen l = l.length := by
  induction l with
  | nil => rfl
  | cons x l ih => exact congrArg Nat.succ ih

theorem nth_eq {α : Type} : ∀ (l : List α) (i : Nat), nth l i = l[i]?
  | [], _ => rfl
  | _ :: _, 0 => rfl
  | _ :: l, i + 1 => by rw [List.getElem?_cons_succ]; exact nth_eq l i

theorem nthD_eq : ∀ (l : List AV) (i : Nat), nthD l i = l[i]?.getD .top
  | [], _ => rfl
  | _ :: _, 0 => rfl
  | _ :: l, i + 1 => by rw [List.getElem?_cons_succ]; exact nthD_eq l i

theorem setL_eq (v : AV) : ∀ (l : List AV) (i : Nat), setL v l i = l.set i v
  | [], _ => rfl
  | _ :: _, 0 => rfl
  | x :: l, i + 1 => by rw [List.set_cons_succ]; exact congrArg (x :: ·) (setL_eq v l i)

theorem takeL_eq : ∀ (l : List AV) (i : Nat), takeL l i = l.take i
  | [], _ => by simp [takeL]
  | _ :: _, 0 => rfl
  | x :: l, i + 1 => by rw [List.take_succ_cons]; exact congrArg (x :: ·) (takeL_eq l i)

theorem dropL_eq : ∀ (l : List AV) (i : Nat), dropL l i = l.drop i
  | [], _ => by simp [dropL]
  | _ :: _, 0 => rfl
  | _ :: l, i + 1 => by rw [List.drop_succ_cons]; exact dropL_eq l i

theorem appL_eq : ∀ (x y : List AV), appL x y = x ++ y
  | [], _ => rfl
  | v :: x, y => congrArg (v :: ·) (appL_eq x y)

theorem overL_eq (l : List AV) : ∀ (b : List AV) (i : Nat), i < b.length → overL l b i = b.take i ++ l ++ b.drop (i + l.length)
  | [], i, h => by simp at h
  | x :: b, 0, _ => by
    show appL l (dropL (x :: b) (len l)) = _
    rw [appL_eq, dropL_eq, len_eq]; simp
  | x :: b, i + 1, h => by
    have : overL l (x :: b) (i + 1) = x :: overL l b i := rfl
    rw [this, overL_eq l b i (by simpa using h)]
    simp [Nat.add_right_comm]

/-- The cells have room for n. -/
def CsOk (n : Nat) : Cs → Prop
  | .li l => l.length = n
  | .m _ => n ≤ 256
  | .l _ => n ≤ 4096
  | .ch e t => 1 ≤ e ∧ n < 4096 * e ∧ ∀ i, i < 4096 → ((gets (List AV) 6 i).get t).length = e

theorem get_li (l : List AV) (i : Nat) : Cs.get i (.li l) = l[i]?.getD .top := nthD_eq l i
theorem get_m (t : QT AV 4) (i : Nat) : Cs.get i (.m t) = (gets AV 4 i).get t := rfl
theorem get_l (t : QT AV 6) (i : Nat) : Cs.get i (.l t) = (gets AV 6 i).get t := rfl
theorem get_ch (e : Nat) (t : QT (List AV) 6) (i : Nat) : Cs.get i (.ch e t) = ((gets (List AV) 6 (i / e)).get t)[i % e]?.getD .top := nthD_eq _ _
theorem put_li (l : List AV) (i : Nat) (v : AV) : Cs.put i v (.li l) = .li (l.set i v) := congrArg Cs.li (setL_eq v l i)
theorem put_m (t : QT AV 4) (i : Nat) (v : AV) : Cs.put i v (.m t) = .m ((puts AV 4 i).put v t) := rfl
theorem put_l (t : QT AV 6) (i : Nat) (v : AV) : Cs.put i v (.l t) = .l ((puts AV 6 i).put v t) := rfl
theorem put_ch (e : Nat) (t : QT (List AV) 6) (i : Nat) (v : AV) : Cs.put i v (.ch e t) = .ch e ((puts (List AV) 6 (i / e)).put (((gets (List AV) 6 (i / e)).get t).set (i % e) v) t) := by
  rw [← setL_eq]; rfl

theorem div_lt {i n e : Nat} (h : i ≤ n) (hn : n < 4096 * e) (he : 1 ≤ e) : i / e < 4096 := (Nat.div_lt_iff_lt_mul (by omega)).2 (by omega)

theorem Cs.put_ok {n : Nat} {c : Cs} (h : CsOk n c) (i : Nat) (hi : i < n) (v : AV) : CsOk n (Cs.put i v c) := by
  cases c with
  | li l => rw [put_li]; simpa [CsOk] using h
  | m t => exact h
  | l t => exact h
  | ch e t =>
    rw [put_ch]
    refine ⟨h.1, h.2.1, fun j hj => ?_⟩
    by_cases hd : j = i / e
    · subst hd; rw [gets_puts]; simpa using h.2.2 _ hj
    · rw [gets_puts_ne _ _ _ _ _ _ (div_lt (n := n) (by omega) h.2.1 h.1) hj hd]; exact h.2.2 _ hj

theorem Cs.get_put {n : Nat} {c : Cs} (h : CsOk n c) (i : Nat) (hi : i < n) (v : AV) : Cs.get i (Cs.put i v c) = v := by
  cases c with
  | li l => rw [put_li, get_li]; simp [CsOk] at h; simp [h, hi]
  | m t => rw [put_m, get_m, gets_puts]
  | l t => rw [put_l, get_l, gets_puts]
  | ch e t =>
    rw [put_ch, get_ch, gets_puts]
    have := h.2.2 (i / e) (div_lt (n := n) (by omega) h.2.1 h.1)
    have hm : i % e < e := Nat.mod_lt _ (by have := h.1; omega)
    simp [this, hm]

theorem Cs.get_put_ne {n : Nat} {c : Cs} (h : CsOk n c) (i j : Nat) (hi : i < n) (hj : j < n) (hn : j ≠ i) (v : AV) : Cs.get j (Cs.put i v c) = Cs.get j c := by
  cases c with
  | li l => rw [put_li, get_li, get_li, List.getElem?_set_ne (Ne.symm hn)]
  | m t => simp only [CsOk] at h; rw [put_m, get_m, get_m, gets_puts_ne _ _ _ _ _ _ (by omega) (by omega) hn]
  | l t => simp only [CsOk] at h; rw [put_l, get_l, get_l, gets_puts_ne _ _ _ _ _ _ (by omega) (by omega) hn]
  | ch e t =>
    rw [put_ch, get_ch, get_ch]
    by_cases hd : j / e = i / e
    · rw [hd, gets_puts, List.getElem?_set_ne]
      intro he
      have h1 := Nat.div_add_mod i e
      have h2 := Nat.div_add_mod j e
      rw [hd] at h2
      omega
    · rw [gets_puts_ne _ _ _ _ _ _ (div_lt (n := n) (by omega) h.2.1 h.1) (div_lt (n := n) (by omega) h.2.1 h.1) hd]

theorem rowBy_length (g : Nat → AV) : ∀ n i, (rowBy g n i).length = n
  | 0, _ => rfl
  | n + 1, i => congrArg Nat.succ (rowBy_length g n (i + 1))
theorem rowBy_get (g : Nat → AV) : ∀ n i j, j < n → (rowBy g n i)[j]? = some (g (i + j))
  | 0, _, _, h => by omega
  | n + 1, i, 0, _ => rfl
  | n + 1, i, j + 1, h => by
    have : (rowBy g (n + 1) i)[j + 1]? = (rowBy g n (i + 1))[j]? := rfl
    rw [this, rowBy_get g n (i + 1) j (by omega)]
    congr 2; omega

/-- The row from i on is what lies there. -/
theorem Cs.row_get {n : Nat} {c : Cs} (h : CsOk n c) (m i : Nat) (hm : i + m ≤ n) (j : Nat) (hj : j < m) : (Cs.row m i c)[j]? = some (Cs.get (i + j) c) := by
  cases c with
  | li l =>
    simp only [CsOk] at h
    show (takeL (dropL l i) m)[j]? = _
    rw [takeL_eq, dropL_eq, get_li, List.getElem?_take, if_pos hj, List.getElem?_drop, List.getElem?_eq_getElem (by omega)]; rfl
  | m t => exact rowBy_get _ _ _ _ hj
  | l t => exact rowBy_get _ _ _ _ hj
  | ch e t =>
    show (sel (takeL (dropL ((gets (List AV) 6 (i / e)).get t) (i % e)) m) (rowBy (fun i => nthD ((gets (List AV) 6 (i / e)).get t) (i % e)) m i) (Nat.ble (i % e + m) e))[j]? = _
    cases hb : Nat.ble (i % e + m) e with
    | false => exact rowBy_get _ _ _ _ hj
    | true =>
      have hb' := Nat.le_of_ble_eq_true hb
      show (takeL (dropL _ _) m)[j]? = _
      have hlen := h.2.2 (i / e) (div_lt (n := n) (by omega) h.2.1 h.1)
      rw [takeL_eq, dropL_eq, get_ch, List.getElem?_take, if_pos hj, List.getElem?_drop]
      have h1 := Nat.div_add_mod i e
      have hd : (i + j) / e = i / e := by
        have : i + j = e * (i / e) + (i % e + j) := by omega
        rw [this, Nat.mul_add_div (by have := h.1; omega), Nat.div_eq_of_lt (show i % e + j < e by omega)]; rfl
      have hmd : (i + j) % e = i % e + j := by
        have h2 := Nat.div_add_mod (i + j) e
        rw [hd] at h2
        omega
      rw [hd, hmd, List.getElem?_eq_getElem (by omega)]; rfl

theorem Cs.row_length {n : Nat} {c : Cs} (h : CsOk n c) (m i : Nat) (hm : i + m ≤ n) : (Cs.row m i c).length = m := by
  cases c with
  | li l =>
    simp only [CsOk] at h
    show (takeL (dropL l i) m).length = m
    rw [takeL_eq, dropL_eq]; simp; omega
  | m t => exact rowBy_length _ _ _
  | l t => exact rowBy_length _ _ _
  | ch e t =>
    show (sel (takeL (dropL ((gets (List AV) 6 (i / e)).get t) (i % e)) m) (rowBy (fun i => nthD ((gets (List AV) 6 (i / e)).get t) (i % e)) m i) (Nat.ble (i % e + m) e)).length = _
    cases hb : Nat.ble (i % e + m) e with
    | false => exact rowBy_length _ _ _
    | true =>
      have hb' := Nat.le_of_ble_eq_true hb
      show (takeL (dropL _ _) m).length = m
      rw [takeL_eq, dropL_eq]
      by_cases hm0 : m = 0
      · subst hm0; simp
      · have hlen := h.2.2 (i / e) (div_lt (n := n) (by omega) h.2.1 h.1)
        simp [hlen]; omega

theorem putsBy_ok {n : Nat} : ∀ (l : List AV) (i : Nat) (c : Cs), CsOk n c → i + l.length ≤ n →
    CsOk n (putsBy l i c) ∧ ∀ j, j < n → Cs.get j (putsBy l i c) = if i ≤ j ∧ j < i + l.length then l[j - i]?.getD .top else Cs.get j c
  | [], i, c, h, _ => ⟨h, fun j _ => (if_neg (by simp)).symm⟩
  | v :: l, i, c, h, hn => by
    simp at hn
    obtain ⟨h1, h2⟩ := putsBy_ok l (i + 1) (Cs.put i v c) (Cs.put_ok h i (by omega) v) (by omega)
    refine ⟨h1, fun j hj => ?_⟩
    have e : putsBy (v :: l) i c = putsBy l (i + 1) (Cs.put i v c) := rfl
    rw [e, h2 j hj]
    by_cases h3 : i + 1 ≤ j ∧ j < i + 1 + l.length
    · rw [if_pos h3, if_pos (by simp; omega)]
      obtain ⟨d, rfl⟩ : ∃ d, j = i + 1 + d := ⟨j - (i + 1), by omega⟩
      have e1 : i + 1 + d - (i + 1) = d := by omega
      have e2 : i + 1 + d - i = d + 1 := by omega
      rw [e1, e2]; rfl
    · rw [if_neg h3]
      by_cases h4 : j = i
      · subst h4; rw [Cs.get_put h _ (by omega), if_pos (by simp)]; simp
      · rw [Cs.get_put_ne h _ _ (by omega) hj h4, if_neg (by simp; omega)]

theorem Cs.puts_ok {n : Nat} (l : List AV) (i : Nat) (c : Cs) (h : CsOk n c) (hn : i + l.length ≤ n) :
    CsOk n (Cs.puts l i c) ∧ ∀ j, j < n → Cs.get j (Cs.puts l i c) = if i ≤ j ∧ j < i + l.length then l[j - i]?.getD .top else Cs.get j c := by
  cases c with
  | m t => exact putsBy_ok l i _ h hn
  | l t => exact putsBy_ok l i _ h hn
  | li b =>
    simp only [CsOk] at h
    have e : Cs.puts l i (.li b) = .li (overL l b i) := rfl
    by_cases hb : i < b.length
    · rw [e, overL_eq l b i hb]
      refine ⟨by simp [CsOk]; omega, fun j hj => ?_⟩
      rw [get_li, get_li, List.getElem?_append, List.getElem?_append]
      by_cases h1 : i ≤ j ∧ j < i + l.length
      · have hm : min i b.length = i := by omega
        have h2 : ¬ j < i := by omega
        have h3 : j < i + l.length := h1.2
        simp [hm, h1.1, h2, h3]
      · rw [if_neg h1]
        have hm : min i b.length = i := by omega
        by_cases h2 : j < i
        · have h3 : j < i + l.length := by omega
          have h4 : j < b.length := by omega
          simp [hm, h2, h3, h4]
        · have h3 : ¬ j < i + l.length := by omega
          simp only [List.length_append, List.length_take, hm, h3, if_false, List.getElem?_drop]
          congr 2; omega
    · have hl : l = [] := by cases l with | nil => rfl | cons _ _ => simp at hn; omega
      subst hl
      have e2 : ∀ (b : List AV) (i : Nat), ¬ i < b.length → overL [] b i = b := by
        intro b
        induction b with
        | nil => intro i _; rfl
        | cons x b ih =>
          intro i hi
          cases i with
          | zero => simp at hi
          | succ i => exact congrArg (x :: ·) (ih i (by simpa using hi))
      rw [e, e2 b i hb]
      exact ⟨h, fun j hj => (if_neg (by simp)).symm⟩
  | ch e t =>
    have e1 : Cs.puts l i (.ch e t) = sel (.ch e ((Ev.puts (List AV) 6 (i / e)).put (overL l ((gets (List AV) 6 (i / e)).get t) (i % e)) t)) (putsBy l i (.ch e t)) (Nat.ble (i % e + len l) e) := rfl
    rw [e1]
    cases hb : Nat.ble (i % e + len l) e with
    | false => exact putsBy_ok l i _ h hn
    | true =>
      have hb' := Nat.le_of_ble_eq_true hb
      rw [len_eq] at hb'
      have he := h.1
      have hme : i % e < e := Nat.mod_lt _ (by omega)
      show CsOk n (.ch e _) ∧ _
      by_cases hl0 : l = []
      · subst hl0
        have e2 : ∀ (b : List AV) (k : Nat), overL [] b k = b := by
          intro b
          induction b with
          | nil => intro k; rfl
          | cons x b ih =>
            intro k
            cases k with
            | zero => rfl
            | succ k => exact congrArg (x :: ·) (ih k)
        rw [e2]
        have hi : i / e < 4096 := div_lt (n := n) (by simpa using hn) h.2.1 h.1
        refine ⟨⟨h.1, h.2.1, fun j hj => ?_⟩, fun j hj => ?_⟩
        · by_cases hd : j = i / e
          · subst hd; rw [gets_puts]; exact h.2.2 _ hj
          · rw [gets_puts_ne _ _ _ _ _ _ hi hj hd]; exact h.2.2 _ hj
        · rw [if_neg (by simp)]
          show Cs.get j (.ch e _) = _
          rw [get_ch, get_ch]
          by_cases hd : j / e = i / e
          · rw [hd, gets_puts]
          · rw [gets_puts_ne _ _ _ _ _ _ hi (div_lt (n := n) (by omega) h.2.1 h.1) hd]
      · have hl1 : 0 < l.length := by cases l with | nil => exact absurd rfl hl0 | cons _ _ => simp
        have hi : i / e < 4096 := div_lt (n := n) (by omega) h.2.1 h.1
        have hlen := h.2.2 (i / e) hi
        rw [overL_eq l _ _ (by omega)]
        refine ⟨⟨h.1, h.2.1, fun j hj => ?_⟩, fun j hj => ?_⟩
        · by_cases hd : j = i / e
          · subst hd; rw [gets_puts]; simp [hlen]; omega
          · rw [gets_puts_ne _ _ _ _ _ _ hi hj hd]; exact h.2.2 _ hj
        · show Cs.get j (.ch e _) = _
          rw [get_ch, get_ch]
          have h1 := Nat.div_add_mod i e
          have h2 := Nat.div_add_mod j e
          by_cases hd : j / e = i / e
          · rw [hd, gets_puts]
            rw [hd] at h2
            have hj' : j % e + i = j + i % e := by omega
            rw [List.getElem?_append, List.getElem?_append]
            have hm : min (i % e) ((gets (List AV) 6 (i / e)).get t).length = i % e := by omega
            by_cases h3 : i ≤ j ∧ j < i + l.length
            · have h4 : ¬ j % e < i % e := by omega
              have h5 : j % e < i % e + l.length := by omega
              have h6 : j % e - i % e = j - i := by omega
              simp [hm, h3.1, h3.2, h4, h5, h6]
            · rw [if_neg h3]
              by_cases h4 : j % e < i % e
              · have h5 : j % e < i % e + l.length := by omega
                have h6 : j % e < ((gets (List AV) 6 (i / e)).get t).length := by omega
                simp [hm, h4, h5, h6]
              · have h5 : ¬ j % e < i % e + l.length := by omega
                simp only [List.length_append, List.length_take, hm, h5, if_false, List.getElem?_drop]
                congr 2; omega
          · rw [gets_puts_ne _ _ _ _ _ _ hi (div_lt (n := n) (by omega) h.2.1 h.1) hd, if_neg]
            rintro ⟨h3, h4⟩
            apply hd
            have : j = e * (i / e) + (i % e + (j - i)) := by omega
            rw [this, Nat.mul_add_div (by omega), Nat.div_eq_of_lt (show i % e + (j - i) < e by omega)]; rfl

/-! ### New cells -/
theorem blank_ok {n e : Nat} {v : AV} {c : Cs} (h : blank n e v = some c) : CsOk n c ∧ ∀ j, j < n → Cs.get j c = v := by
  unfold blank at h
  cases h1 : Nat.ble n 300 with
  | true =>
    rw [h1] at h
    obtain rfl := Option.some.inj h
    exact ⟨by simp [CsOk], fun j hj => by rw [get_li]; simp [hj]⟩
  | false =>
    rw [h1] at h
    cases h2 : (Nat.ble n 4096 && Nat.beq e 1) with
    | true =>
      rw [h2] at h
      obtain rfl := Option.some.inj h
      simp only [Bool.and_eq_true] at h2
      exact ⟨Nat.le_of_ble_eq_true h2.1, fun j _ => gets_all AV v 6 j⟩
    | false =>
      rw [h2] at h
      cases h3 : (Nat.ble 1 e && Nat.ble (Nat.succ n) (Nat.mul 4096 e)) with
      | false => rw [h3] at h; cases h
      | true =>
        rw [h3] at h
        obtain rfl := Option.some.inj h
        simp only [Bool.and_eq_true] at h3
        have h4 : 1 ≤ e := Nat.le_of_ble_eq_true h3.1
        refine ⟨⟨h4, Nat.le_of_ble_eq_true h3.2, fun i _ => by rw [gets_all]; simp⟩, fun j _ => ?_⟩
        have h5 : j % e < e := Nat.mod_lt _ (by omega)
        rw [get_ch, gets_all]; simp [h5]

theorem cells_ok (es : Nat) (l : List AV) : CsOk l.length (cells es l) ∧ ∀ j, j < l.length → Cs.get j (cells es l) = l[j]?.getD .top := by
  have hli : CsOk l.length (.li l) ∧ ∀ j, j < l.length → Cs.get j (.li l) = l[j]?.getD .top := ⟨rfl, fun j _ => get_li l j⟩
  have hput : ∀ c, CsOk l.length c → CsOk l.length (putsBy l 0 c) ∧ ∀ j, j < l.length → Cs.get j (putsBy l 0 c) = l[j]?.getD .top := fun c hc => by
    obtain ⟨h1, h2⟩ := putsBy_ok l 0 c hc (by omega)
    exact ⟨h1, fun j hj => by rw [h2 j hj, if_pos ⟨by omega, by omega⟩]; rfl⟩
  unfold cells
  cases h1 : (Nat.beq es 1 || Nat.ble (len l) 16) with
  | true => exact hli
  | false =>
    cases h2 : Nat.ble (len l) 256 with
    | true => exact hput _ (by have := Nat.le_of_ble_eq_true h2; rw [len_eq] at this; exact this)
    | false =>
      cases h3 : Nat.ble (len l) 4096 with
      | true => exact hput _ (by have := Nat.le_of_ble_eq_true h3; rw [len_eq] at this; exact this)
      | false => exact hli

end Go.Proofs.YtlkbahknmbgjmaaGreat.Ev
