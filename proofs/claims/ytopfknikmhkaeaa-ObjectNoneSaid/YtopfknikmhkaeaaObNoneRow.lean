/- pantrylaw14.ObjectNone returns true whatever it is given, and leaves it alone. No conditions. -/
import Derived.Test.YtopfknikmhkaeaaRow
import Derived.Test.YtopfknikmhkaeaaRowB
import Derived.Test.YtopfknikmhkaeaaObNone
import Derived.Test.YtopfknikmhkaeaaFlat
import Derived.Test.YtopfknikmhkaeaaObLeaf
import Derived.ProofKit
import Derived.OpenShut
namespace Go.Proofs.Ytopfknikmhkaeaa.objectNone
open Go.ChangeShapes Go.WideShapes Go.ChangeAt Go.RowKit
set_option linter.unusedVariables false
theorem own : ownKnob Try.prog.godebug = none := by kernel_rfl
set_option maxRecDepth 100000 in
theorem lifted (os : Os) (started : os.Started) (H : Type) (enc : TypeId × Value → H) :
    ReturnsInHanded {} Try.checked os 7 .any (Rows.objectNoneSpec.pre6 enc Try.prog Try.f7 Rows.objectNoneRow.domain false) (Rows.objectNoneSpec.post enc Try.prog Try.f7 false true false false) := by
  refine returnsInHanded_of_change (C := Try.checked) own started (by kernel_rfl) Try.func7
    (ChangeSpec.witness6 (enc := enc) (C := Try.checked) false ⟨#[], #[.agg #[.int .i64 0, .int .i64 0, .int .i64 0, .int .i64 0, .int .i64 0, .bool false]], []⟩ 8 (by kernel_rfl) (by kernel_rfl) (by kernel_rfl) (by kernel_rfl)) ?_
  intro W base args ds gs before hval0 hW hcnd _
  have hval : ∀ (j : Nat) t v, Try.f7.params[j]? = some t → args[j]? = some v → Value.okWide Try.prog W .any base t v := hval0
  have hW' := hW
  obtain ⟨p, q, hA0, hV, hpq, hfz, hnd⟩ := hW
  have hA : DataW.TrodAll enc Try.prog W 0 (fun _ => true) true Try.f7.params.toList args.toList ds p := hA0
  rw [Try.params7] at hA hval
  obtain ⟨v0, vs0, d0, ds0, p0, q0, hargs, rfl, rfl, h0, r0⟩ := trodAll_cons hA
  obtain ⟨rfl, rfl, rfl⟩ := trodAll_nil r0
  obtain rfl : args = #[v0] := by cases args; simp_all
  have hgs : gs = [] := (trodVars_none hV).1
  subst hgs
  have walk : Calls Try.prog 7 #[v0] W fun e W' => e = .returned (.bool true) ∧ Fr (fun _ => False) W W' := by
    obtain ⟨cs, rfl, hl⟩ := open_flatS (n := 4) (ks := [.int .i64, .int .i64, .int .i64, .int .i64, .int .i64, .bool]) Try.underlying52 (by kernel_rfl) (hval 0 52 v0 rfl rfl) h0
    obtain ⟨x0, x1, x2, x3, x4, x5, hx⟩ := leaf_oa _ hl
    obtain rfl : cs = #[.int .i64 x0, .int .i64 x1, .int .i64 x2, .int .i64 x3, .int .i64 x4, .bool x5] := by
      have := congrArg List.toArray hx
      simpa using this
    exact none_walk W x0 x1 x2 x3 x4 x5
  refine walk.mono fun e W' ⟨he, hg⟩ => ⟨_, he, post_true (bt := 4) (by kernel_rfl) (by kernel_rfl) (by kernel_rfl) Try.underlying4 rfl ⟨rfl, rfl, rfl⟩ hW' hg⟩
theorem over : Rows.objectNoneRow.holds Try.pinned (OpenSpec.ofChange Rows.objectNoneSpec) :=
  OpenClaim.holds_of_wide 7 Try.f7 rfl rfl rfl rfl rfl rfl rfl ⟨rfl, rfl, rfl, rfl, rfl⟩ rfl rfl rfl rfl rfl (by kernel_rfl) Try.func7 (by kernel_rfl)
    (of_decide_eq_true (by kernel_rfl)) (by unfold Func.isWrapper; first | (rw [if_pos (by decide +kernel)]; kernel_rfl) | (rw [if_neg (by decide +kernel)]; exact ⟨rfl, rfl⟩))
    (fun os started H enc _ => lifted os started H enc)
theorem proved : Rows.ObjectNoneSaid :=
  over
#print axioms proved
end Go.Proofs.Ytopfknikmhkaeaa.objectNone
