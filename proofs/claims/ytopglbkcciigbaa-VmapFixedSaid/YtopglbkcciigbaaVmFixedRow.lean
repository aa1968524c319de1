/- pantrylaw16.VmapFixed returns true whatever it is given, and leaves it alone. No conditions. -/
import Derived.Test.YtopglbkcciigbaaRow
import Derived.Test.YtopglbkcciigbaaRowB
import Derived.Test.YtopglbkcciigbaaVmFixed
import Derived.ProofKit
import Derived.OpenShut
namespace Go.Proofs.Ytopglbkcciigbaa.vmapFixed
open Go.ChangeShapes Go.WideShapes Go.ChangeAt Go.RowKit
set_option linter.unusedVariables false
theorem own : ownKnob Try.prog.godebug = none := by kernel_rfl
set_option maxRecDepth 100000 in
theorem lifted (os : Os) (started : os.Started) (H : Type) (enc : TypeId × Value → H) :
    ReturnsInHanded {} Try.checked os 7 .any (Rows.vmapFixedSpec.pre6 enc Try.prog Try.f7 Rows.vmapFixedRow.domain false) (Rows.vmapFixedSpec.post enc Try.prog Try.f7 false true false false) := by
  refine returnsInHanded_of_change (C := Try.checked) own started (by kernel_rfl) Try.func7
    (ChangeSpec.witness6 (enc := enc) (C := Try.checked) false ⟨#[], #[.slice none 0 0, .agg #[.int .i64 0, .int .i64 0, .int .i64 0, .int .i64 0, .int .i64 0, .int .i64 0, .int .i64 0, .int .i64 0, .bool false, .int .i64 0, .int .i64 0, .int .i64 0, .int .i64 0, .bool false, .bool false]], []⟩ 8 (by kernel_rfl) (by kernel_rfl) (by kernel_rfl) (by kernel_rfl)) ?_
  intro W base args ds gs before hval0 hW hcnd _
  have hval : ∀ (j : Nat) t v, Try.f7.params[j]? = some t → args[j]? = some v → Value.okWide Try.prog W .any base t v := hval0
  have hW' := hW
  obtain ⟨p, q, hA0, hV, hpq, hfz, hnd⟩ := hW
  have hA : DataW.TrodAll enc Try.prog W 0 (fun _ => true) true Try.f7.params.toList args.toList ds p := hA0
  rw [Try.params7] at hA hval
  obtain ⟨v0, vs0, d0, ds0, p0, q0, hargs, rfl, rfl, h0, r0⟩ := trodAll_cons hA
  obtain ⟨v1, vs1, d1, ds1, p1, q1, rfl, rfl, rfl, h1, r1⟩ := trodAll_cons r0
  obtain ⟨rfl, rfl, rfl⟩ := trodAll_nil r1
  obtain rfl : args = #[v0, v1] := by cases args; simp_all
  have hgs : gs = [] := (trodVars_none hV).1
  subst hgs
  have walk : Calls Try.prog 7 #[v0, v1] W fun e W' => e = .returned (.bool true) ∧ Fr (fun _ => False) W W' := by
    obtain ⟨A, N, C, rfl⟩ := okWide_slice Try.underlying22 (hval 0 22 v0 rfl rfl)
    obtain ⟨acts, hx, hgood, hl, _, _⟩ := open_list (κ := VAct) (enc1 := actC) (Good := WfA) (n := 4) (ks := actK) Try.underlying22 (by kernel_rfl) (by kernel_rfl) leaf_act rfl h0
    obtain ⟨cs, rfl, hlc⟩ := open_flatS (n := 4) (ks := actK) Try.underlying30 (by kernel_rfl) (hval 1 30 v1 rfl rfl) h1
    obtain ⟨a, hx1, hw⟩ := leaf_act _ hlc
    obtain rfl : cs = (actC a).toArray := by
      have := congrArg List.toArray hx1
      simpa using this.symm
    exact fixed_walk W A N C acts a hx hl hgood hw
  refine walk.mono fun e W' ⟨he, hg⟩ => ⟨_, he, post_true (bt := 4) (by kernel_rfl) (by kernel_rfl) (by kernel_rfl) Try.underlying4 rfl ⟨rfl, rfl, rfl⟩ hW' hg⟩
theorem over : Rows.vmapFixedRow.holds Try.pinned (OpenSpec.ofChange Rows.vmapFixedSpec) :=
  OpenClaim.holds_of_wide 7 Try.f7 rfl rfl rfl rfl rfl rfl rfl ⟨rfl, rfl, rfl, rfl, rfl⟩ rfl rfl rfl rfl rfl (by kernel_rfl) Try.func7 (by kernel_rfl)
    (of_decide_eq_true (by kernel_rfl)) (by unfold Func.isWrapper; first | (rw [if_pos (by decide +kernel)]; kernel_rfl) | (rw [if_neg (by decide +kernel)]; exact ⟨rfl, rfl⟩))
    (fun os started H enc _ => lifted os started H enc)
theorem proved : Rows.VmapFixedSaid :=
  over
#print axioms proved
end Go.Proofs.Ytopglbkcciigbaa.vmapFixed
