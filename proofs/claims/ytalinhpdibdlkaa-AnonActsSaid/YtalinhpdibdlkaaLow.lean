/- AnonLowest: a new one has the least number that none has. No conditions. -/
import Derived.Test.YtalinhpdibdlkaaAnF
import Derived.Test.YtalinhpdibdlkaaOpen
namespace Go.Proofs.Ytalinhpdibdlkaa
open Go.RowKit
set_option linter.unusedSimpArgs false
set_option linter.unusedVariables false
theorem alSet_new {κ α : Type} [DecidableEq κ] : ∀ (l : List (κ × α)) (k : κ) (v : α), k ∉ l.map (·.1) → alSet l k v = l ++ [(k, v)]
  | [], k, v, _ => rfl
  | (x, u) :: l, k, v, h => by
    have hx : x ≠ k := fun e => h (by simp [e])
    simp only [alSet, hx, if_false, List.cons_append]
    rw [alSet_new l k v (fun h2 => h (by simp at h2 ⊢; exact .inr h2))]
theorem alGet_set {κ α : Type} [DecidableEq κ] : ∀ (l : List (κ × α)) (k x : κ) (v : α), alGet (alSet l k v) x = if x = k then some v else alGet l x
  | [], k, x, v => by
    by_cases h : x = k
    · simp [alSet, alGet, h]
    · simp [alSet, alGet, h, Ne.symm h]
  | (y, u) :: l, k, x, v => by
    have ih := alGet_set l k x v
    by_cases hy : y = k
    · subst hy
      by_cases h : x = y
      · subst h; simp [alSet, alGet]
      · simp [alSet, alGet, h, Ne.symm h]
    · by_cases h : y = x
      · subst h; simp [alSet, alGet, hy]
      · simp [alSet, alGet, hy, h, ih]
theorem alGet_none_of {κ α : Type} [DecidableEq κ] : ∀ (l : List (κ × α)) (k : κ), k ∉ l.map (·.1) → alGet l k = none
  | [], k, _ => rfl
  | (x, u) :: l, k, h => by
    have hx : x ≠ k := fun e => h (by simp [e])
    simp only [alGet, hx, if_false]
    exact alGet_none_of l k (fun h2 => h (by simp at h2 ⊢; exact .inr h2))
theorem alGet_del {κ α : Type} [DecidableEq κ] : ∀ (l : List (κ × α)) (k x : κ), (l.map (·.1)).Nodup → alGet (alDel l k) x = if x = k then none else alGet l x
  | [], k, x, _ => by by_cases h : x = k <;> simp [alDel, alGet, h]
  | (y, u) :: l, k, x, hn => by
    simp only [List.map_cons, List.nodup_cons] at hn
    have ih := alGet_del l k x hn.2
    by_cases hy : y = k
    · subst hy
      by_cases h : x = y
      · subst h; simp only [alDel, if_true]; exact alGet_none_of l x hn.1
      · simp [alDel, alGet, h, Ne.symm h]
    · by_cases h : y = x
      · subst h; simp [alDel, alGet, hy]
      · simp [alDel, alGet, hy, h, ih]
theorem alSet_keys {κ α : Type} [DecidableEq κ] : ∀ (l : List (κ × α)) (k : κ) (v : α), (alSet l k v).map (·.1) = if k ∈ l.map (·.1) then l.map (·.1) else l.map (·.1) ++ [k]
  | [], k, v => by simp [alSet]
  | (x, u) :: l, k, v => by
    have ih := alSet_keys l k v
    by_cases hx : x = k
    · subst hx; simp [alSet]
    · simp only [alSet, hx, if_false, List.map_cons, ih, List.mem_cons, Ne.symm hx, false_or]
      split <;> simp
theorem alSet_nodup {κ α : Type} [DecidableEq κ] (l : List (κ × α)) (k : κ) (v : α) (h : (l.map (·.1)).Nodup) : ((alSet l k v).map (·.1)).Nodup := by
  rw [alSet_keys]
  split
  · exact h
  · rename_i hk
    exact List.nodup_append.2 ⟨h, by simp, fun a ha b hb => by simp at hb; subst hb; exact fun e => hk (e ▸ ha)⟩
theorem alSet_le {κ α : Type} [DecidableEq κ] (l : List (κ × α)) (k : κ) (v : α) : (alSet l k v).length ≤ l.length + 1 := by
  have := congrArg List.length (alSet_keys l k v)
  simp only [List.length_map] at this
  rw [this]
  split <;> simp
theorem alSet_len_in {κ α : Type} [DecidableEq κ] (l : List (κ × α)) (k : κ) (v u : α) (h : alGet l k = some u) : (alSet l k v).length = l.length := by
  have := congrArg List.length (alSet_keys l k v)
  simp only [List.length_map] at this
  rw [this, if_pos (Decidable.byContradiction fun hn => by rw [alGet_none_of l k hn] at h; cases h)]
  simp
theorem alDel_sub {κ α : Type} [DecidableEq κ] : ∀ (l : List (κ × α)) (k : κ), (alDel l k).Sublist l
  | [], k => List.Sublist.refl _
  | (x, u) :: l, k => by
    by_cases hx : x = k
    · simp only [alDel, hx, if_true]; exact List.sublist_cons_self _ _
    · simp only [alDel, hx, if_false]; exact (alDel_sub l k).cons_cons _
/-- The anons 1 .. j. -/
def madeL (j : Nat) : List (Int × A3) := (List.range j).map fun k : Nat => ((k : Int) + 1, ((1 : Int), ((k : Int) + 1, (-1 : Int))))
theorem madeL_succ (j : Nat) : alSet (madeL j) ((j : Int) + 1) (1, (j : Int) + 1, -1) = madeL (j + 1) := by
  rw [alSet_new]
  · unfold madeL; rw [List.range_succ, List.map_append]; rfl
  · unfold madeL
    rw [List.map_map]
    simp only [List.mem_map, List.mem_range, Function.comp]
    rintro ⟨k, hk, he⟩
    omega
theorem madeL_len (j : Nat) : (madeL j).length = j := by simp [madeL]
theorem madeL_nodup : ((madeL 40).map (·.1)).Nodup := by decide
theorem madeL_get (k : Nat) (h1 : 1 ≤ k) (h2 : k ≤ 40) : alGet (madeL 40) (k : Int) = some (1, (k : Int), -1) := by
  have : ∀ k : Nat, k < 41 → 1 ≤ k → alGet (madeL 40) (k : Int) = some (1, (k : Int), -1) := by decide
  exact this k (by omega) h1
end Go.Proofs.Ytalinhpdibdlkaa
