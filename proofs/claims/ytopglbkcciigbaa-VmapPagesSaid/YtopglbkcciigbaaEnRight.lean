/- pantryref15.Right; pantrylaw15.right. Conditions: bounds on lengths. -/
import Derived.Test.YtopglbkcciigbaaEnSame
namespace Go.Proofs.Ytopglbkcciigbaa
open Go.RowKit
set_option linter.unusedSimpArgs false
set_option linter.unusedVariables false
def prevE (l : List Ent) : Nat → Int
  | 0 => 0
  | j + 1 => match l[j]? with | some x => x.e | none => 0
theorem rightB_step {last : Int} {x : Ent} {l : List Ent} {i : Nat} (hx : l[i]? = some x) : rightB last (l.drop i) = (goodB x && decide (last ≤ x.s) && rightB x.e (l.drop (i + 1))) := by
  have hi := (List.getElem?_eq_some_iff.1 hx).1
  have hx2 := (List.getElem?_eq_some_iff.1 hx).2
  rw [List.drop_eq_getElem_cons hi, hx2]
  rfl
end Go.Proofs.Ytopglbkcciigbaa
