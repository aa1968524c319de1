/- tlb.Table in memory. -/
import Derived.Test.YtehgfhcpjeepkaaHeap
namespace Go.Proofs.Ytehgfhcpjeepkaa
open Go.RowKit
set_option linter.unusedSimpArgs false
set_option linter.unusedVariables false
abbrev K2 := Int × Int
def k2 (k : K2) : Value := .agg #[.int .i64 k.1, .int .i64 k.2]
def k2s (k : K2) : List Value := [.int .i64 k.1, .int .i64 k.2]
/-- Are two keys one? -/
def k2eq (a b c d : Int) : Bool := a == c && b == d
theorem k2eq_iff (x y : K2) : k2eq x.1 x.2 y.1 y.2 = decide (x = y) := by
  unfold k2eq
  obtain ⟨a, b⟩ := x
  obtain ⟨c, d⟩ := y
  rw [Bool.eq_iff_iff]
  simp
theorem eqin_key (a b c d : Int) (w : World) : (Op.equalIn 10000 27 (.agg #[.int .i64 a, .int .i64 b]) (.agg #[.int .i64 c, .int .i64 d])).run Try.prog w = .ok (k2eq a b c d) w := by
  unfold k2eq
  have u3 := Try.underlying3
  have a3 := Try.isAgg3
  have z3 := Try.sizeOf3
  have hS : Try.prog.underlying 27 = some (.struct (Try.prog.fieldsOf 27)) := by kernel_rfl
  rw [show (10000 : Nat) = 9999 + 1 from rfl, run_equalIn_agg w 9999 27 _ _ hS (by kernel_rfl)]
  simp only [Program.fieldsOf, Try.underlying27]
  go_simp
  by_cases h1 : a = c <;> by_cases h2 : b = d <;> simp [h1, h2]
/-- Two keys held against each other. -/
def eqKey (a b c d : Int) : Sem Value := binOp .eql 27 (.agg #[.int .i64 a, .int .i64 b]) (.agg #[.int .i64 c, .int .i64 d])
@[go_sem high] theorem to_eqKey (a b c d : Int) : binOp .eql 27 (.agg #[.int .i64 a, .int .i64 b]) (.agg #[.int .i64 c, .int .i64 d]) = eqKey a b c d := rfl
@[go_sem] theorem run_eqKey (a b c d : Int) (w : World) : (eqKey a b c d).run Try.prog w = .ok (.bool (k2eq a b c d)) w := by
  change Sem.run Try.prog (Op.equalIn 10000 27 _ _ >>= _) w = _
  rw [Sem.run_bind, eqin_key]
  rfl
@[go_sem] theorem eqMapNil (a : Option Nat) (w : World) : (binOp .eql 56 (.map a) (.map none)).run Try.prog w = .ok (.bool a.isNone) w := eql_map_nil w _ a Try.underlying56
theorem eq_k2 (a b : K2) (w : World) : (Op.equal 27 (k2 a) (k2 b)).run Try.prog w = .ok (decide (b = a)) w := by
  unfold k2 Op.equal Op.maxDepth
  rw [eqin_key]
  unfold k2eq
  congr 1
  obtain ⟨a1, a2⟩ := a
  obtain ⟨b1, b2⟩ := b
  rw [Bool.eq_iff_iff]
  simp only [Bool.and_eq_true, beq_iff_eq, decide_eq_true_eq, Prod.mk.injEq]
  constructor <;> (rintro ⟨rfl, rfl⟩; exact ⟨rfl, rfl⟩)
theorem check_k2 (b : Bool) (k : K2) (w : World) : (Instr.checkKey b 10000 27 (k2 k)).run Try.prog w = .ok () w := by kernel_rfl
theorem key_k2 : KeyOK Try.prog 27 k2 :=
  KeyOK.of_asking (u := .struct (Try.prog.fieldsOf 27)) (by kernel_rfl) (fun a b => rfl) eq_k2 check_k2 (fun k => by simp [k2, Instr.sameBits])
end Go.Proofs.Ytehgfhcpjeepkaa
