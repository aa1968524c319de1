/- EntryClips: the plain law. No conditions. -/
import Derived.Test.YtopglbkcciigbaaEnClipP
namespace Go.Proofs.Ytopglbkcciigbaa
set_option linter.unusedSimpArgs false
set_option linter.unusedVariables false
theorem clipL_none {l : List Ent} {p : Int} {y : Ent} (h : y ∈ clipL l p) : ¬ (y.s < p ∧ p < y.e) := by
  unfold clipL at h
  obtain ⟨x, hx, hy⟩ := List.mem_flatMap.1 h
  unfold clip1 at hy
  split at hy
  · simp at hy
    rcases hy with rfl | rfl
    · simp only [cutA]; omega
    · simp only [cutB]; omega
  · simp at hy; subst hy; assumption
theorem clipL_id {p : Int} : ∀ {l : List Ent}, (∀ y ∈ l, ¬ (y.s < p ∧ p < y.e)) → clipL l p = l
  | [], _ => rfl
  | x :: l, h => by
    have e : clipL (x :: l) p = clip1 x p ++ clipL l p := rfl
    rw [e, clipL_id (fun y hy => h y (List.mem_cons_of_mem _ hy))]
    unfold clip1
    rw [if_neg (h x (List.mem_cons_self ..))]
    rfl
theorem clipL_twice (l : List Ent) (p : Int) : clipL (clipL l p) p = clipL l p := clipL_id fun _ hy => clipL_none hy
theorem clip1_app (l m : List Ent) (p : Int) : clipL (l ++ m) p = clipL l p ++ clipL m p := by unfold clipL; exact List.flatMap_append
theorem cutB_pos (x : Ent) (p : Int) (h : 0 < x.f) : cutB x p = ⟨p, x.e, x.f, x.o + (p - x.s), x.sh, x.pr, x.mx, x.inh, x.adv, x.wi⟩ := by unfold cutB; rw [if_pos h]
theorem cutB_neg (x : Ent) (p : Int) (h : ¬ 0 < x.f) : cutB x p = ⟨p, x.e, x.f, x.o, x.sh, x.pr, x.mx, x.inh, x.adv, x.wi⟩ := by unfold cutB; rw [if_neg h]
theorem clip1_comm (x : Ent) (p q : Int) : clipL (clip1 x p) q = clipL (clip1 x q) p := by
  have one : ∀ y r, clipL [y] r = clip1 y r := fun y r => by unfold clipL; simp
  have two : ∀ y z r, clipL [y, z] r = clip1 y r ++ clip1 z r := fun y z r => by unfold clipL; simp
  by_cases h1 : x.s < p ∧ p < x.e
  · by_cases h2 : x.s < q ∧ q < x.e
    · have e1 : clip1 x p = [cutA x p, cutB x p] := if_pos h1
      have e2 : clip1 x q = [cutA x q, cutB x q] := if_pos h2
      rw [e1, e2, two, two]
      rcases Int.lt_trichotomy p q with h | h | h
      · have f1 : clip1 (cutA x p) q = [cutA x p] := if_neg (by simp only [cutA]; omega)
        have f2 : clip1 (cutB x p) q = [cutA (cutB x p) q, cutB (cutB x p) q] := if_pos (by simp only [cutB]; omega)
        have f3 : clip1 (cutA x q) p = [cutA (cutA x q) p, cutB (cutA x q) p] := if_pos (by simp only [cutA]; omega)
        have f4 : clip1 (cutB x q) p = [cutB x q] := if_neg (by simp only [cutB]; omega)
        rw [f1, f2, f3, f4]
        by_cases hf : 0 < x.f
        · rw [cutB_pos (cutB x p) q hf, cutB_pos x p hf, cutB_pos (cutA x q) p hf, cutB_pos x q hf]
          simp [cutA] <;> omega
        · rw [cutB_neg (cutB x p) q hf, cutB_neg x p hf, cutB_neg (cutA x q) p hf, cutB_neg x q hf]
          simp [cutA] <;> omega
      · subst h; rfl
      · have f1 : clip1 (cutA x q) p = [cutA x q] := if_neg (by simp only [cutA]; omega)
        have f2 : clip1 (cutB x q) p = [cutA (cutB x q) p, cutB (cutB x q) p] := if_pos (by simp only [cutB]; omega)
        have f3 : clip1 (cutA x p) q = [cutA (cutA x p) q, cutB (cutA x p) q] := if_pos (by simp only [cutA]; omega)
        have f4 : clip1 (cutB x p) q = [cutB x p] := if_neg (by simp only [cutB]; omega)
        rw [f1, f2, f3, f4]
        by_cases hf : 0 < x.f
        · rw [cutB_pos (cutB x q) p hf, cutB_pos x q hf, cutB_pos (cutA x p) q hf, cutB_pos x p hf]
          simp [cutA] <;> omega
        · rw [cutB_neg (cutB x q) p hf, cutB_neg x q hf, cutB_neg (cutA x p) q hf, cutB_neg x p hf]
          simp [cutA] <;> omega
    · have e1 : clip1 x p = [cutA x p, cutB x p] := if_pos h1
      have e2 : clip1 x q = [x] := if_neg h2
      rw [e1, e2, two, one, e1]
      have f1 : clip1 (cutA x p) q = [cutA x p] := if_neg (by simp only [cutA]; omega)
      have f2 : clip1 (cutB x p) q = [cutB x p] := if_neg (by simp only [cutB]; omega)
      rw [f1, f2]; rfl
  · have e1 : clip1 x p = [x] := if_neg h1
    by_cases h2 : x.s < q ∧ q < x.e
    · have e2 : clip1 x q = [cutA x q, cutB x q] := if_pos h2
      rw [e1, e2, two, one, e2]
      have f1 : clip1 (cutA x q) p = [cutA x q] := if_neg (by simp only [cutA]; omega)
      have f2 : clip1 (cutB x q) p = [cutB x q] := if_neg (by simp only [cutB]; omega)
      rw [f1, f2]; rfl
    · have e2 : clip1 x q = [x] := if_neg h2
      rw [e1, e2, one, one, e1, e2]
theorem clipL_comm (p q : Int) : ∀ (l : List Ent), clipL (clipL l p) q = clipL (clipL l q) p
  | [] => rfl
  | x :: l => by
    have e1 : ∀ r, clipL (x :: l) r = clip1 x r ++ clipL l r := fun r => rfl
    rw [e1, e1, clip1_app, clip1_app, clip1_comm x p q, clipL_comm p q l]
end Go.Proofs.Ytopglbkcciigbaa
