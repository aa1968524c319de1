/- Slices of rows of numbers that came in, as Lean lists. No conditions. -/
import Derived.Test.YtopfknikmhkaeaaOpen
namespace Go.Proofs.Ytopfknikmhkaeaa
open Go.ChangeShapes Go.WideShapes Go.RowKit
set_option linter.unusedSimpArgs false
set_option linter.unusedVariables false
theorem flat_get {κ : Type} {enc : κ → List Value} {c : Nat} (hc : ∀ x, (enc x).length = c) : ∀ {l : List κ} {j : Nat} {a : κ}, l[j]? = some a → ∀ i, i < c → (l.flatMap enc)[j * c + i]? = (enc a)[i]?
  | [], j, a, h, i, hi => by cases h
  | x :: t, 0, a, h, i, hi => by
    simp at h; subst h
    rw [List.flatMap_cons, List.getElem?_append_left (by rw [hc]; omega)]; simp
  | x :: t, j + 1, a, h, i, hi => by
    rw [List.getElem?_cons_succ] at h
    have ih := flat_get hc h i hi
    have e : (j + 1) * c + i = c + (j * c + i) := by rw [Nat.succ_mul]; omega
    rw [List.flatMap_cons, List.getElem?_append_right (by rw [hc]; omega), hc, e, Nat.add_sub_cancel_left, ih]
theorem Rd.at {κ : Type} {enc : κ → List Value} {c : Nat} (hc : ∀ x, (enc x).length = c) (h0 : 0 < c) {w : World} {v : Value} {l : List κ} (h : Rd w c v (l.flatMap enc)) {j : Nat} {a : κ} (hj : l[j]? = some a) :
    ∃ g off n cap, v = .slice (some ⟨g, off, none⟩) n cap ∧ g < w.heap.size ∧ ∀ i u, (enc a)[i]? = some u → w.cell? ⟨g, off + j * c + i, none⟩ = some u := by
  obtain ⟨g, off, n, cap, heq, hgl, hcs, hl⟩ := Rd.form h (by
    intro e
    have h1 := flat_get hc hj 0 h0
    rw [e] at h1
    have h2 : (enc a)[0]? ≠ none := by rw [List.getElem?_eq_getElem (by rw [hc]; exact h0)]; simp
    exact h2 h1.symm)
  refine ⟨g, off, n, cap, heq, hgl, fun i u hu => ?_⟩
  rw [Nat.add_assoc]
  have hi : i < c := by rw [← hc a]; exact (List.getElem?_eq_some_iff.1 hu).1
  exact hcs _ _ ((flat_get hc hj i hi).trans hu)
/-- Four numbers. -/
abbrev I4 := Int × Int × Int × Int
def i4 (a : I4) : List Value := [.int .i64 a.1, .int .i64 a.2.1, .int .i64 a.2.2.1, .int .i64 a.2.2.2]
theorem i4_len (a : I4) : (i4 a).length = 4 := rfl
theorem leaf_i4 (cs : List Value) (h : leafAll [.int .i64, .int .i64, .int .i64, .int .i64] cs) : ∃ x : I4, i4 x = cs ∧ True := by
  obtain ⟨hl, h⟩ := h
  obtain ⟨a, ha, m, rfl, _⟩ := h 0 _ rfl
  obtain ⟨b, hb, n, rfl, _⟩ := h 1 _ rfl
  obtain ⟨c, hc, o, rfl, _⟩ := h 2 _ rfl
  obtain ⟨d, hd, p, rfl, _⟩ := h 3 _ rfl
  match cs, hl, ha, hb, hc, hd with
  | [_, _, _, _], _, rfl, rfl, rfl, rfl => exact ⟨(m, n, o, p), rfl, trivial⟩
/-- An argument that is a struct of plain parts. -/
theorem open_flatS {H : Type} {enc : TypeId × Value → H} {P : Program} {w : World} {base : Nat} {spare : Nat → Bool} {held : Bool} {t : TypeId} {fs : Array Field} {n : Nat} {ks : List Leaf} {v : Value} {d : DataW H} {p : List MemPlace} {r : Reach} {b0 : Nat}
    (ht : P.underlying t = some (.struct fs)) (hks : leaves P n t = some ks) (hval : Value.okWide P w r b0 t v) (h : DataW.Trod enc P w base spare held t v d p) : ∃ cs, v = .agg cs ∧ leafAll ks cs.toList := by
  obtain ⟨cs, rfl, _⟩ := okWide_struct ht hval
  obtain ⟨fuel, h⟩ := h
  exact ⟨cs, rfl, trod_leaves n t ks hks fuel _ _ h⟩
end Go.Proofs.Ytopfknikmhkaeaa
