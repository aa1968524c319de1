/- A heap of numbers in a list, the least one on top: the plain laws of its push and pop, a swap at a time. No conditions. -/
import Derived.Test.YtalinhpdibdlkaaSlB
namespace Go.Proofs.Ytalinhpdibdlkaa
set_option linter.unusedVariables false
/-- The number at a place. -/
def at' (l : List Int) (i : Nat) : Int := l.getD i 0
def swap (l : List Int) (i k : Nat) : List Int := (l.set i (at' l k)).set k (at' l i)
@[simp] theorem swap_length (l : List Int) (i k : Nat) : (swap l i k).length = l.length := by simp [swap]
theorem at_get (l : List Int) (i : Nat) (h : i < l.length) : at' l i = l[i] := by simp [at', List.getD, h]
theorem at_set (l : List Int) (i j : Nat) (x : Int) (h : i < l.length) : at' (l.set i x) j = if j = i then x else at' l j := by
  unfold at'
  simp only [List.getD_eq_getElem?_getD, List.getElem?_set]
  by_cases hj : j = i
  · subst hj; simp [h]
  · simp [hj, Ne.symm hj]
theorem at_swap (l : List Int) (i k j : Nat) (hi : i < l.length) (hk : k < l.length) : at' (swap l i k) j = if j = k then at' l i else if j = i then at' l k else at' l j := by
  unfold swap
  rw [at_set _ _ _ _ (by simpa using hk), at_set _ _ _ _ hi]
theorem swap_perm (l : List Int) (i k : Nat) (hi : i < l.length) (hk : k < l.length) : (swap l i k).Perm l := by
  unfold swap
  rw [at_get l i hi, at_get l k hk]
  exact List.set_set_perm hi hk
/-- Every number is at most its children. -/
def HeapOK (l : List Int) : Prop := ∀ j, 0 < j → j < l.length → at' l ((j - 1) / 2) ≤ at' l j
theorem heap_top (l : List Int) (h : HeapOK l) : ∀ j, j < l.length → at' l 0 ≤ at' l j := by
  intro j
  induction j using Nat.strongRecOn with
  | _ j ih =>
    intro hj
    by_cases h0 : j = 0
    · subst h0; exact Int.le_refl _
    · exact Int.le_trans (ih ((j - 1) / 2) (by omega) (by omega)) (h j (by omega) hj)
theorem heap_least (l : List Int) (h : HeapOK l) (x : Int) (hx : x ∈ l) : at' l 0 ≤ x := by
  obtain ⟨j, hj, rfl⟩ := List.getElem_of_mem hx
  rw [← at_get l j hj]
  exact heap_top l h j hj
/-! ### push: the new number at place i may be less than what is above it -/
structure UpOK (l : List Int) (i : Nat) : Prop where
  lt : i < l.length
  heap : ∀ j, 0 < j → j < l.length → j ≠ i → at' l ((j - 1) / 2) ≤ at' l j
  over : ∀ j, j < l.length → 0 < j → (j - 1) / 2 = i → 0 < i → at' l ((i - 1) / 2) ≤ at' l j
theorem up_start (l : List Int) (n : Int) (h : HeapOK l) : UpOK (l ++ [n]) l.length := by
  have hat : ∀ j, j < l.length → at' (l ++ [n]) j = at' l j := fun j hj => by simp [at', List.getD_eq_getElem?_getD, List.getElem?_append_left hj]
  refine ⟨by simp, fun j h0 hj hne => ?_, fun j hj h0 hp hi => ?_⟩
  · simp at hj
    rw [hat j (by omega), hat _ (by omega)]
    exact h j h0 (by omega)
  · simp at hj; omega
theorem up_swap (l : List Int) (i : Nat) (h : UpOK l i) (h0 : 0 < i) (hgt : at' l i < at' l ((i - 1) / 2)) : UpOK (swap l i ((i - 1) / 2)) ((i - 1) / 2) := by
  obtain ⟨hi, hh, ho⟩ := h
  have hp : (i - 1) / 2 < l.length := by omega
  have hpi : (i - 1) / 2 ≠ i := by omega
  refine ⟨by simpa using hp, fun j j0 hj hne => ?_, fun j hj j0 hjp hp0 => ?_⟩
  · simp only [swap_length] at hj
    rw [at_swap l i _ j hi hp, at_swap l i _ _ hi hp]
    rw [if_neg hne]
    by_cases hji : j = i
    · subst hji
      rw [if_pos rfl, if_pos rfl]; omega
    · rw [if_neg hji]
      by_cases hpp : (j - 1) / 2 = (i - 1) / 2
      · rw [if_pos hpp]
        have := hh j j0 hj hji
        rw [hpp] at this; omega
      · rw [if_neg hpp]
        by_cases hpi2 : (j - 1) / 2 = i
        · rw [if_pos hpi2]
          exact ho j hj j0 hpi2 h0
        · rw [if_neg hpi2]
          exact hh j j0 hj hji
  · simp only [swap_length] at hj
    have hpp : at' l (((i - 1) / 2 - 1) / 2) ≤ at' l ((i - 1) / 2) := hh _ hp0 hp hpi
    have e1 : ((i - 1) / 2 - 1) / 2 ≠ (i - 1) / 2 := by omega
    have e2 : ((i - 1) / 2 - 1) / 2 ≠ i := by omega
    rw [at_swap l i _ _ hi hp, at_swap l i _ _ hi hp, if_neg e1, if_neg e2]
    have hjne : j ≠ (i - 1) / 2 := by omega
    rw [if_neg hjne]
    by_cases hji : j = i
    · rw [if_pos hji]; exact hpp
    · rw [if_neg hji]
      have := hh j j0 hj hji
      rw [hjp] at this
      omega
theorem up_end (l : List Int) (i : Nat) (h : UpOK l i) (he : i = 0 ∨ at' l ((i - 1) / 2) ≤ at' l i) : HeapOK l := by
  intro j j0 hj
  by_cases hji : j = i
  · subst hji
    rcases he with h | h
    · omega
    · exact h
  · exact h.heap j j0 hj hji
/-! ### pop: the number at place i may be greater than what is below it -/
structure DownOK (l : List Int) (i : Nat) : Prop where
  heap : ∀ j, 0 < j → j < l.length → (j - 1) / 2 ≠ i → at' l ((j - 1) / 2) ≤ at' l j
  over : ∀ j, 0 < j → j < l.length → (j - 1) / 2 = i → 0 < i → at' l ((i - 1) / 2) ≤ at' l j
theorem down_start (l : List Int) (h : HeapOK l) (x : Int) : DownOK ((l.set 0 x).take (l.length - 1)) 0 := by
  have hat : ∀ j, 0 < j → j < l.length - 1 → at' ((l.set 0 x).take (l.length - 1)) j = at' l j := fun j h0 hj => by
    unfold at'
    simp only [List.getD_eq_getElem?_getD, List.getElem?_take]
    rw [if_pos hj, List.getElem?_set, if_neg (by omega)]
  refine ⟨fun j j0 hj hne => ?_, fun j j0 hj hp hi => by omega⟩
  simp at hj
  rw [hat j j0 (by omega), hat _ (by omega) (by omega)]
  exact h j j0 (by omega)
/-- k is the lesser child of i. -/
def Child (l : List Int) (i k : Nat) : Prop := (k = 2 * i + 1 ∨ k = 2 * i + 2) ∧ k < l.length ∧ ∀ j, (j = 2 * i + 1 ∨ j = 2 * i + 2) → j < l.length → at' l k ≤ at' l j
theorem down_swap (l : List Int) (i k : Nat) (h : DownOK l i) (hi : i < l.length) (hc : Child l i k) (hgt : at' l k < at' l i) : DownOK (swap l i k) k := by
  obtain ⟨hh, ho⟩ := h
  obtain ⟨hk, hkl, hmin⟩ := hc
  have hki : k ≠ i := by omega
  refine ⟨fun j j0 hj hne => ?_, fun j j0 hj hjp hk0 => ?_⟩
  · simp only [swap_length] at hj
    rw [at_swap l i k j hi hkl, at_swap l i k _ hi hkl, if_neg hne]
    by_cases hpi : (j - 1) / 2 = i
    · rw [if_pos hpi]
      by_cases hjk : j = k
      · rw [if_pos hjk]; omega
      · rw [if_neg hjk]
        have hji : j ≠ i := by omega
        rw [if_neg hji]
        exact hmin j (by omega) hj
    · rw [if_neg hpi]
      have hjk : j ≠ k := by omega
      rw [if_neg hjk]
      by_cases hji : j = i
      · rw [if_pos hji]
        subst hji
        exact ho k (by omega) hkl (by omega) j0
      · rw [if_neg hji]
        exact hh j j0 hj hpi
  · simp only [swap_length] at hj
    have hpk : (k - 1) / 2 = i := by omega
    rw [at_swap l i k _ hi hkl, at_swap l i k _ hi hkl, hpk, if_neg (Ne.symm hki), if_pos rfl, if_neg (by omega), if_neg (by omega)]
    have := hh j j0 hj (by omega)
    rw [hjp] at this
    exact this
theorem down_end (l : List Int) (i : Nat) (h : DownOK l i) (he : l.length ≤ 2 * i + 1 ∨ ∃ k, Child l i k ∧ at' l i ≤ at' l k) : HeapOK l := by
  intro j j0 hj
  by_cases hp : (j - 1) / 2 = i
  · rcases he with he | ⟨k, ⟨hk, hkl, hmin⟩, hle⟩
    · omega
    · rw [hp]
      exact Int.le_trans hle (hmin j (by omega) hj)
  · exact h.heap j j0 hj hp
/-- What pop leaves is what there was, but the top. -/
theorem pop_perm (l : List Int) (h : 0 < l.length) : (at' l 0 :: (l.set 0 (at' l (l.length - 1))).take (l.length - 1)).Perm l := by
  match l, h with
  | [x], _ => simp [at']
  | x :: y :: r, _ =>
    have hne : (y :: r) ≠ [] := by simp
    have e1 : at' (x :: y :: r) 0 = x := rfl
    have e2 : at' (x :: y :: r) ((x :: y :: r).length - 1) = (y :: r).getLast hne := by
      rw [at_get _ _ (by simp), List.getLast_eq_getElem]
      simp
    rw [e1, e2]
    have e3 : ((x :: y :: r).set 0 ((y :: r).getLast hne)).take ((x :: y :: r).length - 1) = (y :: r).getLast hne :: (y :: r).dropLast := by
      simp only [List.set_cons_zero, List.length_cons, Nat.add_sub_cancel, List.take_succ_cons, List.dropLast_eq_take]
    rw [e3]
    refine List.Perm.cons x ?_
    have := List.dropLast_concat_getLast hne
    conv => rhs; rw [← this]
    exact (List.perm_append_comm (l₁ := [(y :: r).getLast hne]) (l₂ := (y :: r).dropLast))
end Go.Proofs.Ytalinhpdibdlkaa
