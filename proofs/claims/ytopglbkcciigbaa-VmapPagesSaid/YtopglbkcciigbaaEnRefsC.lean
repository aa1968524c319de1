/- pantryref15.Cut and Insert. Conditions: a right list of at most 400 entries. -/
import Derived.Test.YtopglbkcciigbaaEnRefsB
namespace Go.Proofs.Ytopglbkcciigbaa
open Go.RowKit
set_option linter.unusedSimpArgs false
set_option linter.unusedVariables false
theorem own_app {w3 : World} {v v2 : Value} {W wr : World} {m : Value} (hf2 : Fr (fun _ => False) wr W) (ho2 : v2.ownBlock = v.ownBlock ∨ ∃ k, v2.ownBlock = some k ∧ W.heap.size ≤ k) (hm : ∀ k, m.ownBlock = some k → k < wr.heap.size) (hd : ∀ k, m.ownBlock = some k → v.ownBlock = some k → False) :
    ∀ k, m.ownBlock = some k → v2.ownBlock = some k → False := fun k hk hv => by
  rcases ho2 with h | ⟨r, h, hr⟩
  · exact hd k hk (h ▸ hv)
  · rw [h] at hv; cases hv
    have := hm k hk
    have := hf2.size
    omega
/-- How far an insertion has come. -/
def InsInv (l : List Ent) (e : Ent) (i : Nat) (d : Bool) (out : List Ent) : Prop :=
  (d = false ∧ i ≤ fidx l e.s ∧ out = l.take i) ∨ (d = true ∧ fidx l e.s < i ∧ freeB l e = true ∧ out = (insAt l e).take (i + 1))
theorem insAt_get {l : List Ent} {e x : Ent} {i : Nat} (hi : fidx l e.s ≤ i) (hx : l[i]? = some x) : (insAt l e)[i + 1]? = some x := by
  have hfl := fidx_le l e.s
  have hlt : (l.take (fidx l e.s)).length = fidx l e.s := by rw [List.length_take]; omega
  unfold insAt
  rw [List.getElem?_append_right (by omega), hlt, show i + 1 - fidx l e.s = (i - fidx l e.s) + 1 by omega, List.getElem?_cons_succ, List.getElem?_drop, show fidx l e.s + (i - fidx l e.s) = i by omega]
  exact hx
theorem insAt_take (l : List Ent) (e : Ent) : (insAt l e).take (fidx l e.s + 1) = l.take (fidx l e.s) ++ [e] := by
  have hfl := fidx_le l e.s
  have hlt : (l.take (fidx l e.s)).length = fidx l e.s := by rw [List.length_take]; omega
  unfold insAt
  rw [List.take_append, hlt, show fidx l e.s + 1 - fidx l e.s = 1 by omega, List.take_of_length_le (by omega)]; rfl
theorem high_after {l : List Ent} {e x : Ent} {i : Nat} (hr : rightB 0 l = true) (hf : freeB l e = true) (hi : fidx l e.s < i) (hx : l[i]? = some x) : e.e ≤ x.s := by
  cases hy : l[fidx l e.s]? with
  | none =>
    have := List.getElem?_eq_none_iff.1 hy
    have := (List.getElem?_eq_some_iff.1 hx).1
    omega
  | some y =>
    unfold freeB at hf
    rw [hy] at hf
    have h1 : e.e ≤ y.s := by simpa using hf
    have h3 := rightB_drop (fidx l e.s) hr
    rw [ent_drop hy, rightB_cons] at h3
    have h4 : x ∈ l.drop (fidx l e.s + 1) := List.mem_of_getElem? (i := i - (fidx l e.s + 1)) (by rw [List.getElem?_drop, show fidx l e.s + 1 + (i - (fidx l e.s + 1)) = i by omega]; exact hx)
    have h5 := (rightB_mem h3.2.2 x h4).2
    have h6 := (goodE_of h3.1).se
    omega
end Go.Proofs.Ytopglbkcciigbaa
