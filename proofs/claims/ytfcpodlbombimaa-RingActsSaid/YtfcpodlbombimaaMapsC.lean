/- The nil map: what is looked up. No conditions. -/
import Derived.Test.YtfcpodlbombimaaMapsB
namespace Go.Proofs.Ytfcpodlbombimaa
open Go.RowKit
set_option linter.unusedSimpArgs false
set_option linter.unusedVariables false
set_option linter.unusedSectionVars false
section
variable {P : Program} {κ α : Type} [DecidableEq κ] {K : TypeId} {enc : κ → Value} {ev : α → Value} {w : World}
theorem run_lookup_nil (P : Program) (T : TypeId) (k : Value) (b : Bool) (w : World) :
    (Instr.lookup T (.map none) k b).run P w = lookR P T k b (some (.map #[] 0)) w := by
  unfold Instr.lookup lookR
  rw [Sem.run_bind]
  cases hu : P.underlying T with
  | none => rw [run_und_none hu]; rfl
  | some u =>
    rw [run_und hu]
    dsimp only [Result.andThen]
    cases u <;> rfl
theorem run_look_nil (hk : KeyOK P K enc) {T E : TypeId} (hT : P.underlying T = some (.map K E)) {z : Value} (hz : ∀ w, (zeroValue E).run P w = .ok z w) (k : κ) (b : Bool) :
    (Instr.lookup T (.map none) (enc k) b).run P w = .ok (if b then .tuple #[z, .bool false] else z) w := by
  rw [run_lookup_nil]
  unfold lookR lookIn
  rw [hT]
  dsimp only
  rw [Sem.run_bind, hk.check]
  simp only [Result.andThen]
  rw [Sem.run_bind, hk.find k (#[] : Array MapEntry).toList [] w rfl]
  simp only [Result.andThen, List.findIdx?_nil, Option.map_none]
  rw [Sem.run_bind, hz]
  rfl
variable {ops : Array Oper} {Q : Exit → Act → World → Prop} {a : Act} {rest : List Oper} {o : Oper}
theorem wpList_look2_nil (hg : o.guard = none) (T : TypeId) (x i : Operand) (ho : o.op = .lookup T x i true) (hx : a.eval x = .map none) (k : κ) (hi : a.eval i = enc k)
    (hk : KeyOK P K enc) {E : TypeId} (hT : P.underlying T = some (.map K E)) {z : Value} (hz : ∀ w, (zeroValue E).run P w = .ok z w)
    (h : wpList P ops Q rest (a.put o.dst (.tuple #[z, .bool false])) w) : wpList P ops Q (o :: rest) a w := by
  refine wpList_ran hg ?_ h
  unfold execOp
  simp only [ho, hx, hi]
  rw [Sem.run_bind, run_look_nil hk hT hz k true]
  rfl
theorem wpList_look1_nil (hg : o.guard = none) (T : TypeId) (x i : Operand) (ho : o.op = .lookup T x i false) (hx : a.eval x = .map none) (k : κ) (hi : a.eval i = enc k)
    (hk : KeyOK P K enc) {E : TypeId} (hT : P.underlying T = some (.map K E)) {z : Value} (hz : ∀ w, (zeroValue E).run P w = .ok z w)
    (h : wpList P ops Q rest (a.put o.dst z) w) : wpList P ops Q (o :: rest) a w := by
  refine wpList_ran hg ?_ h
  unfold execOp
  simp only [ho, hx, hi]
  rw [Sem.run_bind, run_look_nil hk hT hz k false]
  rfl
end
end Go.Proofs.Ytfcpodlbombimaa
