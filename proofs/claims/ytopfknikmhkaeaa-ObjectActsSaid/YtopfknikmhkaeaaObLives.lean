/- The document's examples of objects ('lives'). No conditions. -/
import Derived.Test.YtopfknikmhkaeaaObH
namespace Go.Proofs.Ytopfknikmhkaeaa
open Go.RowKit
set_option linter.unusedSimpArgs false
set_option linter.unusedVariables false
theorem wf1 : wf64 1 := by unfold wf64; decide
set_option maxRecDepth 100000 in
set_option maxHeartbeats 2000000 in
theorem lives_any (w : World) : Calls Try.prog 9 #[] w fun e w' => e = .returned (.bool true) ∧ Fr (fun _ => False) w w' := by
  go_enter Try.func9, Try.ntmps9
  go_wp2_with fail
  refine (newH (W := w) (P := fun _ => False) 4 (by omega) (by omega) (Fr.refl _ w) (fun _ h => h.elim)).mono ?_
  rintro e w1 ⟨b, rfl, hH1, -⟩
  go_wp2_with fail
  refine (makeH hH1 Emp.steady (fun _ h => h.elim) ⟨by simp, by simp⟩ 3).mono ?_
  rintro e w2 ⟨id, er, l', rfl, hM, hH2, -⟩
  obtain ⟨rfl, rfl, rfl⟩ := make_nil hM (by omega) (by omega)
  clear hM
  go_wp2_with fail
  refine (putH hH2 Emp.steady (fun _ h => h.elim) 1 0 (5, 0, false)).mono ?_
  rintro e w3 ⟨rfl, hH3, -⟩
  have e1 : putR [((1 : Int), ((3 : Int), (1 : Int), ([] : List (Int × Pg))))] 1 0 (5, 0, false) = (0, [(1, (3, 1, [(0, (5, 0, false))]))]) := by simp [putR, alGet, alSet]
  rw [e1] at hH3 ⊢
  clear e1
  go_wp2_with fail
  refine (refH hH3 Emp.steady (fun _ h => h.elim) 1 (-1) (fun o ho => by simp [alGet] at ho; subst ho; simp)).mono ?_
  rintro e w4 ⟨rfl, hH4, -⟩
  have e1 : refR [((1 : Int), ((3 : Int), (1 : Int), [((0 : Int), (((5 : Int), (0 : Int), false) : Pg))]))] 1 (-1) = (0, 0, [(1, (3, 0, [(0, (5, 0, false))]))]) := by simp [refR, tidyR, alGet, alSet]
  rw [e1] at hH4 ⊢
  clear e1
  go_wp2_with fail
  obtain ⟨S4, hS4⟩ := hH4.left
  refine (of2_any hS4 ⟨by simp [wf1], by simp⟩ 3).mono ?_
  have e2 : ofR [((1 : Int), ((3 : Int), (0 : Int), [((0 : Int), (((5 : Int), (0 : Int), false) : Pg))]))] 3 = 1 := ofR_one (by omega) (by simp) (by simp [fileR, alGet]) (by simp)
  rw [e2]
  rintro e w5 ⟨rfl, hf5⟩
  have hH5 := hH4.keep ((ObX.steady _ _ _).star Emp.steady) hf5
  clear e2
  go_wp2_with fail
  refine (dropH hH5 Emp.steady (fun _ h => h.elim) 1 0).mono ?_
  rintro e w6 ⟨rfl, hH6, -⟩
  have e1 : dropR [((1 : Int), ((3 : Int), (0 : Int), [((0 : Int), (((5 : Int), (0 : Int), false) : Pg))]))] 1 0 = (true, []) := by simp [dropR, tidyR, alGet, alSet, alDel]
  rw [e1] at hH6 ⊢
  clear e1
  go_wp2_with fail
  obtain ⟨S6, hS6⟩ := hH6.left
  refine (of2_any hS6 ⟨by simp, by simp⟩ 3).mono ?_
  have e2 : ofR [] 3 = 0 := ofR_none (by simp)
  rw [e2]
  rintro e w7 ⟨rfl, hf7⟩
  have hH7 := hH6.keep ((ObX.steady _ _ _).star Emp.steady) hf7
  clear e2
  go_wp2
  go_ret
  exact ⟨rfl, hH7.hf⟩
end Go.Proofs.Ytopfknikmhkaeaa
