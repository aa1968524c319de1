/- pantrylaw14.ObjectActs returns true whatever it is given, and leaves it alone. No conditions. -/
import Derived.Test.YtopfknikmhkaeaaRow
import Derived.Test.YtopfknikmhkaeaaRowB
import Derived.Test.YtopfknikmhkaeaaObActs
import Derived.Test.YtopfknikmhkaeaaObThree
import Derived.ProofKit
import Derived.OpenShut
namespace Go.Proofs.Ytopfknikmhkaeaa.objectActs
open Go.ChangeShapes Go.WideShapes Go.ChangeAt Go.RowKit
set_option linter.unusedVariables false
theorem own : ownKnob Try.prog.godebug = none := by kernel_rfl
set_option maxRecDepth 100000 in
theorem lifted (os : Os) (started : os.Started) (H : Type) (enc : TypeId × Value → H) :
    ReturnsInHanded {} Try.checked os 6 .any (Rows.objectActsSpec.pre6 enc Try.prog Try.f6 Rows.objectActsRow.domain false) (Rows.objectActsSpec.post enc Try.prog Try.f6 false true false false) := by
  refine returnsInHanded_of_change (C := Try.checked) own started (by kernel_rfl) Try.func6
    (ChangeSpec.witness6 (enc := enc) (C := Try.checked) false ⟨#[], #[.int .i64 0, .slice none 0 0, .agg #[.int .i64 0, .int .i64 0, .int .i64 0]], []⟩ 8 (by kernel_rfl) (by kernel_rfl) (by kernel_rfl) (by kernel_rfl)) ?_
  intro W base args ds gs before hval0 hW hcnd _
  have hval : ∀ (j : Nat) t v, Try.f6.params[j]? = some t → args[j]? = some v → Value.okWide Try.prog W .any base t v := hval0
  have hW' := hW
  obtain ⟨p, q, hA0, hV, hpq, hfz, hnd⟩ := hW
  have hA : DataW.TrodAll enc Try.prog W 0 (fun _ => true) true Try.f6.params.toList args.toList ds p := hA0
  rw [Try.params6] at hA hval
  obtain ⟨v0, vs0, d0, ds0, p0, q0, hargs, rfl, rfl, h0, r0⟩ := trodAll_cons hA
  obtain ⟨v1, vs1, d1, ds1, p1, q1, rfl, rfl, rfl, h1, r1⟩ := trodAll_cons r0
  obtain ⟨v2, vs2, d2, ds2, p2, q2, rfl, rfl, rfl, h2, r2⟩ := trodAll_cons r1
  obtain ⟨rfl, rfl, rfl⟩ := trodAll_nil r2
  obtain rfl : args = #[v0, v1, v2] := by cases args; simp_all
  have hgs : gs = [] := (trodVars_none hV).1
  subst hgs
  have walk : Calls Try.prog 6 #[v0, v1, v2] W fun e W' => e = .returned (.bool true) ∧ Fr (fun _ => False) W W' := by
    obtain ⟨a0, rfl, rfl, rfl, w0⟩ := open_int Try.underlying3 (hval 0 3 v0 rfl rfl) h0
    obtain ⟨xs, hx, _, hl, ⟨A, N, C, rfl, hnc, _⟩, _⟩ := open_list (κ := O6) (enc1 := o6) (Good := fun _ => True) (n := 4) (ks := [.int .i64, .int .i64, .int .i64, .int .i64, .int .i64, .bool]) Try.underlying47 (by kernel_rfl) (by kernel_rfl) leaf_o6 (by obtain ⟨A, N, C, rfl⟩ := okWide_slice Try.underlying47 (hval 1 47 v1 rfl rfl); rfl) h1
    obtain ⟨lo, hi, st, rfl⟩ := open_three Try.underlying48 Try.underlying3 (by kernel_rfl) (by kernel_rfl) (hval 2 48 v2 rfl rfl) h2
    exact oacts_walk W a0 A N C xs hx hl lo hi st
  refine walk.mono fun e W' ⟨he, hg⟩ => ⟨_, he, post_true (bt := 4) (by kernel_rfl) (by kernel_rfl) (by kernel_rfl) Try.underlying4 rfl ⟨rfl, rfl, rfl⟩ hW' hg⟩
theorem over : Rows.objectActsRow.holds Try.pinned (OpenSpec.ofChange Rows.objectActsSpec) :=
  OpenClaim.holds_of_wide 6 Try.f6 rfl rfl rfl rfl rfl rfl rfl ⟨rfl, rfl, rfl, rfl, rfl⟩ rfl rfl rfl rfl rfl (by kernel_rfl) Try.func6 (by kernel_rfl)
    (of_decide_eq_true (by kernel_rfl)) (by unfold Func.isWrapper; first | (rw [if_pos (by decide +kernel)]; kernel_rfl) | (rw [if_neg (by decide +kernel)]; exact ⟨rfl, rfl⟩))
    (fun os started H enc _ => lifted os started H enc)
theorem proved : Rows.ObjectActsSaid :=
  over
#print axioms proved
end Go.Proofs.Ytopfknikmhkaeaa.objectActs
