/- pantrylaw12.AnonMany returns true whatever it is given, and leaves it alone. No conditions. -/
import Derived.Test.YtalinhpdibdlkaaRow
import Derived.Test.YtalinhpdibdlkaaRowB
import Derived.Test.YtalinhpdibdlkaaAnMany
import Derived.ProofKit
import Derived.OpenShut
namespace Go.Proofs.Ytalinhpdibdlkaa.anonMany
open Go.ChangeShapes Go.WideShapes Go.ChangeAt Go.RowKit
set_option linter.unusedVariables false
theorem own : ownKnob Try.prog.godebug = none := by kernel_rfl
set_option maxRecDepth 100000 in
theorem lifted (os : Os) (started : os.Started) (H : Type) (enc : TypeId × Value → H) :
    ReturnsInHanded {} Try.checked os 5 .any (Rows.anonManySpec.pre6 enc Try.prog Try.f5 Rows.anonManyRow.domain false) (Rows.anonManySpec.post enc Try.prog Try.f5 false true false false) := by
  refine returnsInHanded_of_change (C := Try.checked) own started (by kernel_rfl) Try.func5
    (ChangeSpec.witness6 (enc := enc) (C := Try.checked) false ⟨#[], #[.int .u64 0, .int .u64 0], []⟩ 8 (by kernel_rfl) (by kernel_rfl) (by kernel_rfl) (by kernel_rfl)) ?_
  intro W base args ds gs before hval0 hW hcnd _
  have hval : ∀ (j : Nat) t v, Try.f5.params[j]? = some t → args[j]? = some v → Value.okWide Try.prog W .any base t v := hval0
  have hW' := hW
  obtain ⟨p, q, hA0, hV, hpq, hfz, hnd⟩ := hW
  have hA : DataW.TrodAll enc Try.prog W 0 (fun _ => true) true Try.f5.params.toList args.toList ds p := hA0
  rw [Try.params5] at hA hval
  obtain ⟨v0, vs0, d0, ds0, p0, q0, hargs, rfl, rfl, h0, r0⟩ := trodAll_cons hA
  obtain ⟨v1, vs1, d1, ds1, p1, q1, rfl, rfl, rfl, h1, r1⟩ := trodAll_cons r0
  obtain ⟨rfl, rfl, rfl⟩ := trodAll_nil r1
  obtain rfl : args = #[v0, v1] := by cases args; simp_all
  have hgs : gs = [] := (trodVars_none hV).1
  subst hgs
  have walk : Calls Try.prog 5 #[v0, v1] W fun e W' => e = .returned (.bool true) ∧ Fr (fun _ => False) W W' := by
    obtain ⟨a0, rfl, rfl, rfl, w0⟩ := open_int Try.underlying30 (hval 0 30 v0 rfl rfl) h0
    obtain ⟨a1, rfl, rfl, rfl, w1⟩ := open_int Try.underlying30 (hval 1 30 v1 rfl rfl) h1
    have hb0 : 0 ≤ a0 ∧ a0 ≤ 18446744073709551615 := by
      have hmin : IntKind.u64.min = 0 := by decide
      have hmax : IntKind.u64.max = 18446744073709551615 := by decide
      simp [Lit.wf] at w0; rw [hmin, hmax] at w0; exact w0
    have hb1 : 0 ≤ a1 ∧ a1 ≤ 18446744073709551615 := by
      have hmin : IntKind.u64.min = 0 := by decide
      have hmax : IntKind.u64.max = 18446744073709551615 := by decide
      simp [Lit.wf] at w1; rw [hmin, hmax] at w1; exact w1
    exact many_walk W a0 a1 hb0.1 hb0.2 hb1.1 hb1.2
  refine walk.mono fun e W' ⟨he, hg⟩ => ⟨_, he, post_true (bt := 4) (by kernel_rfl) (by kernel_rfl) (by kernel_rfl) Try.underlying4 rfl ⟨rfl, rfl, rfl⟩ hW' hg⟩
theorem over : Rows.anonManyRow.holds Try.pinned (OpenSpec.ofChange Rows.anonManySpec) :=
  OpenClaim.holds_of_wide 5 Try.f5 rfl rfl rfl rfl rfl rfl rfl ⟨rfl, rfl, rfl, rfl, rfl⟩ rfl rfl rfl rfl rfl (by kernel_rfl) Try.func5 (by kernel_rfl)
    (of_decide_eq_true (by kernel_rfl)) (by unfold Func.isWrapper; first | (rw [if_pos (by decide +kernel)]; kernel_rfl) | (rw [if_neg (by decide +kernel)]; exact ⟨rfl, rfl⟩))
    (fun os started H enc _ => lifted os started H enc)
theorem proved : Rows.AnonManySaid :=
  over
#print axioms proved
end Go.Proofs.Ytalinhpdibdlkaa.anonMany
