/- Slices of records, each a row of cells. No conditions. -/
import Derived.Test.YtopfknikmhkaeaaFlat
import Derived.Test.YtopfknikmhkaeaaSlB
namespace Go.Proofs.Ytopfknikmhkaeaa
open Go.RowKit
set_option linter.unusedSimpArgs false
set_option linter.unusedVariables false
section
variable {κ : Type} {enc : κ → List Value} {c : Nat} (hc : ∀ x, (enc x).length = c)
include hc
theorem recs_len : ∀ l : List κ, (l.flatMap enc).length = l.length * c
  | [] => by simp
  | x :: l => by rw [List.flatMap_cons, List.length_append, recs_len l, hc, List.length_cons, Nat.succ_mul]; omega
theorem recs_take (l : List κ) (j : Nat) : (l.flatMap enc).take (j * c) = (l.take j).flatMap enc := by
  induction l generalizing j with
  | nil => simp
  | cons x l ih =>
    cases j with
    | zero => simp
    | succ j =>
      have e : (j + 1) * c = (enc x).length + j * c := by rw [hc, Nat.succ_mul]; omega
      rw [List.flatMap_cons, e, List.take_length_add_append, ih, List.take_succ_cons, List.flatMap_cons]
theorem recs_drop (l : List κ) (j : Nat) : (l.flatMap enc).drop (j * c) = (l.drop j).flatMap enc := by
  induction l generalizing j with
  | nil => simp
  | cons x l ih =>
    cases j with
    | zero => simp
    | succ j =>
      have e : (j + 1) * c = (enc x).length + j * c := by rw [hc, Nat.succ_mul]; omega
      rw [List.flatMap_cons, e, List.drop_length_add_append, ih, List.drop_succ_cons]
theorem recs_set {l : List κ} {j : Nat} (hj : j < l.length) (x : κ) : (l.set j x).flatMap enc = (l.flatMap enc).take (j * c) ++ enc x ++ (l.flatMap enc).drop (j * c + (enc x).length) := by
  rw [hc, show j * c + c = (j + 1) * c by rw [Nat.succ_mul], recs_take hc, recs_drop hc, List.set_eq_take_append_cons_drop, if_pos hj]
  simp
theorem Sl.recN {w : World} {e : TypeId} {A : Option Addr} {N C : Nat} {l : List κ} (h0 : 0 < c) (h : Sl w e c (.slice A N C) (l.flatMap enc)) : N = l.length := by
  have := Sl.len h
  rw [recs_len hc] at this
  exact (Nat.eq_of_mul_eq_mul_right h0 this).symm
theorem Sl.recAt {w : World} {e : TypeId} {v : Value} {l : List κ} (h0 : 0 < c) (h : Sl w e c v (l.flatMap enc)) {j : Nat} {a : κ} (hj : l[j]? = some a) :
    ∃ g off n cap, v = .slice (some ⟨g, off, none⟩) n cap ∧ g < w.heap.size ∧ (∀ i, w.frozen? ⟨g, i, none⟩ = false) ∧ ∀ i u, (enc a)[i]? = some u → w.cell? ⟨g, off + j * c + i, none⟩ = some u := by
  obtain ⟨g, off, n, cap, heq, hgl, hcs, hfz, hl⟩ := Sl.form h (by
    intro e
    have h1 := flat_get hc hj 0 h0
    rw [e] at h1
    have h2 : (enc a)[0]? ≠ none := by rw [List.getElem?_eq_getElem (by rw [hc]; exact h0)]; simp
    exact h2 h1.symm)
  refine ⟨g, off, n, cap, heq, hgl, hfz, fun i u hu => ?_⟩
  rw [Nat.add_assoc]
  have hi : i < c := by rw [← hc a]; exact (List.getElem?_eq_some_iff.1 hu).1
  exact hcs _ _ ((flat_get hc hj i hi).trans hu)
theorem Sl.recSet {w : World} {e : TypeId} {g off n cap : Nat} {l : List κ} (h : Sl w e c (.slice (some ⟨g, off, none⟩) n cap) (l.flatMap enc)) {j : Nat} (hj : j < l.length) (x : κ) :
    Sl (w.setCells g (off + j * c) (enc x)) e c (.slice (some ⟨g, off, none⟩) n cap) ((l.set j x).flatMap enc) := by
  rw [recs_set hc hj x]
  refine Sl.put h (j * c) (enc x) ?_
  rw [recs_len hc, hc, ← Nat.succ_mul]
  exact Nat.mul_le_mul_right _ hj
end
theorem recs_snoc {κ : Type} {enc : κ → List Value} (l : List κ) (x : κ) : (l ++ [x]).flatMap enc = l.flatMap enc ++ enc x := by simp
theorem recs_one {κ : Type} {enc : κ → List Value} (h1 : ∀ x, ∀ u ∈ enc x, u.oneCell' = true) (l : List κ) : ∀ u ∈ l.flatMap enc, u.oneCell' = true := fun u hu => by
  obtain ⟨x, _, hx⟩ := List.mem_flatMap.1 hu
  exact h1 x u hx
end Go.Proofs.Ytopfknikmhkaeaa
