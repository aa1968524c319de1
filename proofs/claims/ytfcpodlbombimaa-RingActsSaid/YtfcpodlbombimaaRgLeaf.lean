/- Numbers that came in, as a Lean list. No conditions. -/
import Derived.Test.YtfcpodlbombimaaRgP
namespace Go.Proofs.Ytfcpodlbombimaa
open Go.RowKit
set_option linter.unusedSimpArgs false
set_option linter.unusedVariables false
theorem leaf_int (cs : List Value) (h : leafAll [.int .i64] cs) : ∃ x : Int, [Value.int .i64 x] = cs ∧ True := by
  obtain ⟨hl, h⟩ := h
  obtain ⟨a, ha, m, rfl, _⟩ := h 0 _ rfl
  match cs, hl, ha with
  | [_], _, rfl => exact ⟨m, rfl, trivial⟩
theorem rd_ints {w : World} {v : Value} {xs : List Int} (h : Rd w 1 v (xs.flatMap (fun n => [Value.int .i64 n]))) : RdI w v xs := by
  have e : ∀ l : List Int, l.flatMap (fun n => [Value.int .i64 n]) = kvsI l := fun l => by
    induction l with
    | nil => rfl
    | cons a t ih => rw [List.flatMap_cons, ih]; rfl
  rw [e] at h
  exact h
end Go.Proofs.Ytfcpodlbombimaa
