/- An Act of the law, part by part. No conditions. -/
import Derived.Test.YtopfknikmhkaeaaOpen
namespace Go.Proofs.Ytopfknikmhkaeaa
open Go.RowKit
set_option linter.unusedSimpArgs false
set_option linter.unusedVariables false
theorem leaf_oa (cs : List Value) (h : leafAll [.int .i64, .int .i64, .int .i64, .int .i64, .int .i64, .bool] cs) : ∃ (x0 x1 x2 x3 x4 : Int) (x5 : Bool), cs = [.int .i64 x0, .int .i64 x1, .int .i64 x2, .int .i64 x3, .int .i64 x4, .bool x5] := by
  obtain ⟨hl, h⟩ := h
  obtain ⟨a0, ha0, m0, rfl, _⟩ := h 0 _ rfl
  obtain ⟨a1, ha1, m1, rfl, _⟩ := h 1 _ rfl
  obtain ⟨a2, ha2, m2, rfl, _⟩ := h 2 _ rfl
  obtain ⟨a3, ha3, m3, rfl, _⟩ := h 3 _ rfl
  obtain ⟨a4, ha4, m4, rfl, _⟩ := h 4 _ rfl
  obtain ⟨a5, ha5, hk5⟩ := h 5 _ rfl
  obtain ⟨m5, rfl⟩ : ∃ b : Bool, a5 = .bool b := by
    simpa [leafOk] using hk5
  match cs, hl, ha0, ha1, ha2, ha3, ha4, ha5 with
  | [_, _, _, _, _, _], _, rfl, rfl, rfl, rfl, rfl, rfl => exact ⟨m0, m1, m2, m3, m4, m5, rfl⟩
end Go.Proofs.Ytopfknikmhkaeaa
