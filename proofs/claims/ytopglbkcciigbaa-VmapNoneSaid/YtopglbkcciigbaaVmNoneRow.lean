/- pantrylaw16.VmapNone returns true whatever it is given, and leaves it alone. No conditions. -/
import Derived.Test.YtopglbkcciigbaaRow
import Derived.Test.YtopglbkcciigbaaRowB
import Derived.Test.YtopglbkcciigbaaVmNone
import Derived.ProofKit
import Derived.OpenShut
namespace Go.Proofs.Ytopglbkcciigbaa.vmapNone
open Go.ChangeShapes Go.WideShapes Go.ChangeAt Go.RowKit
set_option linter.unusedVariables false
theorem own : ownKnob Try.prog.godebug = none := by kernel_rfl
set_option maxRecDepth 100000 in
theorem lifted (os : Os) (started : os.Started) (H : Type) (enc : TypeId × Value → H) :
    ReturnsInHanded {} Try.checked os 6 .any (Rows.vmapNoneSpec.pre6 enc Try.prog Try.f6 Rows.vmapNoneRow.domain false) (Rows.vmapNoneSpec.post enc Try.prog Try.f6 false true false false) := by
  refine returnsInHanded_of_change (C := Try.checked) own started (by kernel_rfl) Try.func6
    (ChangeSpec.witness6 (enc := enc) (C := Try.checked) false ⟨#[], #[.agg #[.int .i64 0, .int .i64 0, .int .i64 0, .int .i64 0, .int .i64 0, .int .i64 0, .int .i64 0, .int .i64 0, .bool false, .int .i64 0, .int .i64 0, .int .i64 0, .int .i64 0, .bool false, .bool false]], []⟩ 8 (by kernel_rfl) (by kernel_rfl) (by kernel_rfl) (by kernel_rfl)) ?_
  intro W base args ds gs before hval0 hW hcnd _
  have hval : ∀ (j : Nat) t v, Try.f6.params[j]? = some t → args[j]? = some v → Value.okWide Try.prog W .any base t v := hval0
  have hW' := hW
  obtain ⟨p, q, hA0, hV, hpq, hfz, hnd⟩ := hW
  have hA : DataW.TrodAll enc Try.prog W 0 (fun _ => true) true Try.f6.params.toList args.toList ds p := hA0
  rw [Try.params6] at hA hval
  obtain ⟨v0, vs0, d0, ds0, p0, q0, hargs, rfl, rfl, h0, r0⟩ := trodAll_cons hA
  obtain ⟨rfl, rfl, rfl⟩ := trodAll_nil r0
  obtain rfl : args = #[v0] := by cases args; simp_all
  have hgs : gs = [] := (trodVars_none hV).1
  subst hgs
  have walk : Calls Try.prog 6 #[v0] W fun e W' => e = .returned (.bool true) ∧ Fr (fun _ => False) W W' := by
    obtain ⟨cs, rfl, hl⟩ := open_flatS (n := 4) (ks := actK) Try.underlying30 (by kernel_rfl) (hval 0 30 v0 rfl rfl) h0
    obtain ⟨a, hx, hw⟩ := leaf_act _ hl
    obtain rfl : cs = (actC a).toArray := by
      have := congrArg List.toArray hx
      simpa using this.symm
    exact vnone_walk W a.kd a.lo a.pg a.hw a.x a.on
  refine walk.mono fun e W' ⟨he, hg⟩ => ⟨_, he, post_true (bt := 4) (by kernel_rfl) (by kernel_rfl) (by kernel_rfl) Try.underlying4 rfl ⟨rfl, rfl, rfl⟩ hW' hg⟩
theorem over : Rows.vmapNoneRow.holds Try.pinned (OpenSpec.ofChange Rows.vmapNoneSpec) :=
  OpenClaim.holds_of_wide 6 Try.f6 rfl rfl rfl rfl rfl rfl rfl ⟨rfl, rfl, rfl, rfl, rfl⟩ rfl rfl rfl rfl rfl (by kernel_rfl) Try.func6 (by kernel_rfl)
    (of_decide_eq_true (by kernel_rfl)) (by unfold Func.isWrapper; first | (rw [if_pos (by decide +kernel)]; kernel_rfl) | (rw [if_neg (by decide +kernel)]; exact ⟨rfl, rfl⟩))
    (fun os started H enc _ => lifted os started H enc)
theorem proved : Rows.VmapNoneSaid :=
  over
#print axioms proved
end Go.Proofs.Ytopglbkcciigbaa.vmapNone
