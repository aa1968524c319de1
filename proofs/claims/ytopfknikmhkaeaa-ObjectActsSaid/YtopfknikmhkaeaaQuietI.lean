/- A drawn region that only reads, inside a round of a range over a function: one walk in the text's order. No conditions but those that a kernel check pays. -/
import Derived.Test.YtopfknikmhkaeaaCanonI
import Derived.BigQuiet
namespace Go.Proofs.Ytopfknikmhkaeaa
open Go.RowKit
set_option linter.unusedSimpArgs false
set_option linter.unusedVariables false
theorem wpIn_region_quietI {P : Program} {F : Fence} {n : Nat} {l : List Oper} {Q : Exit → Act → World → Prop} {a : Act} {w : World} {id : Nat} (hF : ∀ f, F.fn f) (hm : P.follows .mixedOrders = true) (hB : Region.lexB .any l.toArray = true) (hp : l.toArray.all plainOp = true)
    (h : wpQuiet P l.toArray (fun w' => ∃ n, w' = w.drewN n) (fun a' => ∀ w', (∃ n, w' = w.drewN n) → Q .normal a' w') l a) : (Code.region id l.toArray true).wpIn F n P Q a w := by
  simp only [Region.lexB, Bool.and_eq_true] at hB
  have h1 := wpAnyQ_lex (C := fun w' => ∃ n, w' = w.drewN n) (md := .any) hB.1 l 0 (Array.replicate l.toArray.size false) a (by simp) (by simpa using hB.2) h
  have h2 := wpAny_of_quiet (P := P) (ops := l.toArray) (md := .any) (Q' := canonPost (fun a w' => Q .normal a w')) (Q := fun a' => ∀ w', (∃ n, w' = w.drewN n) → Q .normal a' w') (fun _ w' hw' h => h w' hw') _ _ _ w.drew ⟨1, rfl⟩ h1
  refine Code.wpIn_mono (fun e a w hq => ?_) (wpIn_region_any hm (wpAnyIn_of hF hp _ _ _ _ (by simpa using h2)))
  cases e <;> first | exact hq | exact hq.elim
#print axioms wpIn_region_quietI
end Go.Proofs.Ytopfknikmhkaeaa
