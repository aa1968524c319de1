/- Keys of a map that are strings. No conditions. -/
import Derived.Test.YtfcpodlbombimaaMapsC
namespace Go.Proofs.Ytfcpodlbombimaa
open Go.RowKit
set_option linter.unusedSimpArgs false
set_option linter.unusedVariables false
theorem bytes_beq_refl (x : ByteArray) : (x == x) = true := by
  show (x.data == x.data) = true
  exact beq_self_eq_true _
theorem bytes_beq_ne {x y : ByteArray} (hx : ¬ x = y) : (x == y) = false := by
  cases h : (x == y) with
  | false => rfl
  | true =>
    have h2 : (x.data == y.data) = true := h
    exact absurd (ByteArray.ext (eq_of_beq h2)) hx
theorem KeyOK.string {P : Program} {K : TypeId} (hK : P.underlying K = some .string) : KeyOK P K (fun s : ByteArray => .string s) where
  check b k w := by
    unfold Instr.checkKey
    rw [Sem.run_bind, run_und hK]
    rfl
  bits k := by simp only [Instr.sameBits]; exact bytes_beq_refl k
  find k es l w h := by
    unfold Instr.findKey
    rw [Sem.run_bind, run_und hK]
    have key : ∀ (es : List MapEntry) (l : List ByteArray) (i : Nat), es.map (·.key) = l.map (fun s => Value.string s) →
        Instr.findNow .string (.string k) es i = some ((l.findIdx? (fun x => decide (x = k))).map fun j => (i + j, (es.map (·.val)).getD j undef)) := by
      intro es
      induction es with
      | nil =>
        intro l i h
        cases l with
        | nil => rfl
        | cons x l => cases h
      | cons e es ih =>
        intro l i h
        cases l with
        | nil => cases h
        | cons x l =>
          simp only [List.map_cons, List.cons.injEq] at h
          simp only [Instr.findNow, h.1, Instr.sameNow, List.findIdx?_cons]
          by_cases hx : x = k
          · simp [hx, bytes_beq_refl]
          · have : (k == x) = false := bytes_beq_ne (fun e => hx e.symm)
            simp only [this, hx, decide_false, Bool.false_eq_true, if_false]
            rw [ih l (i + 1) h.2]
            cases l.findIdx? (fun x => decide (x = k)) with
            | none => rfl
            | some j => simp [Nat.add_assoc, Nat.add_comm 1 j]
    simp only [Result.andThen, key es l 0 h]
    simp [Sem.run_pure]
end Go.Proofs.Ytfcpodlbombimaa
