/- pantryref15.Good and Right; pantrylaw15.right. No conditions. -/
import Derived.Test.YtopglbkcciigbaaEn
namespace Go.Proofs.Ytopglbkcciigbaa
open Go.RowKit
set_option linter.unusedSimpArgs false
set_option linter.unusedVariables false
def bad1 (x : Ent) : Bool :=
  !(decide (0 ≤ x.s) && decide (x.s < x.e) && decide (x.e ≤ 67108864) && decide (0 ≤ x.f) && decide (0 ≤ x.o) && decide (0 ≤ x.pr) && decide (x.pr ≤ 7) && decide (0 ≤ x.mx) && decide (x.mx ≤ 7) && permB x.pr x.mx)
def bad2 (x : Ent) : Bool := !(decide (0 ≤ x.inh) && decide (x.inh ≤ 2) && decide (0 ≤ x.adv) && decide (x.adv ≤ 4))
theorem goodB_eq (x : Ent) : goodB x = (!bad1 x && !bad2 x && (if x.f = 0 then decide (x.o = 0) else decide (x.o ≤ 4096 - (x.e - x.s)))) := by
  unfold goodB bad1 bad2; rw [Bool.not_not, Bool.not_not]
end Go.Proofs.Ytopglbkcciigbaa
