/- pantrylaw16: acts as they come in; what an act leaves as it was. No conditions. -/
import Derived.Test.YtopglbkcciigbaaVmL
import Derived.Test.YtopglbkcciigbaaEnSame
import Derived.Test.YtopglbkcciigbaaFlat
namespace Go.Proofs.Ytopglbkcciigbaa
open Go.RowKit
set_option linter.unusedSimpArgs false
set_option linter.unusedVariables false
theorem actC_len (a : VAct) : (actC a).length = 15 := rfl
def actK : List Leaf := [.int .i64, .int .i64, .int .i64, .int .i64] ++ entK ++ [.bool]
structure WfA (a : VAct) : Prop where
  kd : (Lit.int .i64 a.kd).wf = true
  lo : (Lit.int .i64 a.lo).wf = true
  pg : (Lit.int .i64 a.pg).wf = true
  hw : (Lit.int .i64 a.hw).wf = true
  x : WfE a.x
theorem leaf_act (cs : List Value) (h : leafAll actK cs) : ∃ a : VAct, actC a = cs ∧ WfA a := by
  obtain ⟨hl, h⟩ := h
  obtain ⟨_, e0, m0, rfl, w0⟩ := h 0 _ rfl
  obtain ⟨_, e1, m1, rfl, w1⟩ := h 1 _ rfl
  obtain ⟨_, e2, m2, rfl, w2⟩ := h 2 _ rfl
  obtain ⟨_, e3, m3, rfl, w3⟩ := h 3 _ rfl
  obtain ⟨_, e14, m14, rfl⟩ := h 14 _ rfl
  have hl' : cs.length = 15 := hl
  have hm : leafAll entK ((cs.drop 4).take 10) := by
    refine ⟨by simp [entK]; omega, fun i k hk => ?_⟩
    have hi : i < 10 := (List.getElem?_eq_some_iff.1 hk).1
    obtain ⟨u, hu, hr⟩ := h (4 + i) k (by
      show ([Leaf.int .i64, .int .i64, .int .i64, .int .i64] ++ entK ++ [.bool])[4 + i]? = some k
      rw [List.append_assoc, List.getElem?_append_right (by simp), List.getElem?_append_left (by simp [entK]; omega)]
      simpa using hk)
    exact ⟨u, by rw [List.getElem?_take, if_pos hi, List.getElem?_drop]; exact hu, hr⟩
  obtain ⟨x, hx, hw⟩ := leaf_ent _ hm
  refine ⟨⟨m0, m1, m2, m3, x, m14⟩, ?_, ⟨w0, w1, w2, w3, hw⟩⟩
  unfold actC
  rw [hx]
  apply List.ext_getElem?
  intro i
  by_cases hi : i < 15
  · by_cases h4 : i < 4
    · rw [List.append_assoc, List.getElem?_append_left (by simpa using h4)]
      match i, h4 with
      | 0, _ => exact e0.symm
      | 1, _ => exact e1.symm
      | 2, _ => exact e2.symm
      | 3, _ => exact e3.symm
    · by_cases h14 : i = 14
      · subst h14
        rw [List.getElem?_append_right (by simp; omega)]
        have : 14 - ([Value.int .i64 m0, .int .i64 m1, .int .i64 m2, .int .i64 m3] ++ (cs.drop 4).take 10).length = 0 := by simp; omega
        rw [this]
        exact e14.symm
      · rw [List.append_assoc, List.getElem?_append_right (by simp; omega), List.getElem?_append_left (by simp; omega), List.getElem?_take, if_pos (by simp; omega), List.getElem?_drop]
        congr 1
        simp; omega
  · rw [List.getElem?_eq_none (by simp; omega), List.getElem?_eq_none (by omega)]
/-- What is refused changes nothing. -/
theorem act_err {l : List Ent} {a : VAct} (h : (actV l a).err ≠ 0) : (actV l a).l = l ∧ a.kd ≠ 6 := by
  have hs : ∀ lo n ok may f, (setV l lo n ok may f).err ≠ 0 → (setV l lo n ok may f).l = l := fun lo n ok may f h => by
    unfold setV at h ⊢
    split; rfl
    split; rfl
    split; rfl
    rename_i h1 h2 h3
    rw [if_neg h1, if_neg h2, if_neg h3] at h
    exact absurd rfl h
  unfold actV at h ⊢
  split
  · rename_i k
    rw [if_pos k] at h
    refine ⟨?_, by omega⟩
    unfold mapV at h ⊢
    split; rfl
    split; rfl
    rename_i h1 h2
    rw [if_neg h1, if_neg h2] at h
    split
    · rename_i h3; rw [if_pos h3] at h; exact absurd rfl h
    · rename_i h3
      rw [if_neg h3] at h
      split
      · rename_i h4; rw [if_pos h4] at h; exact absurd rfl h
      · rfl
  · rename_i k; rw [if_neg k] at h
    split
    · rename_i k; rw [if_pos k] at h
      refine ⟨?_, by omega⟩
      unfold unmapV at h ⊢
      split; rfl
      rename_i h1
      rw [if_neg h1] at h
      exact absurd rfl h
    · rename_i k; rw [if_neg k] at h
      split
      · rename_i k; rw [if_pos k] at h; exact ⟨hs _ _ _ _ _ h, by omega⟩
      · rename_i k; rw [if_neg k] at h
        split
        · rename_i k; rw [if_pos k] at h; exact ⟨hs _ _ _ _ _ h, by omega⟩
        · rename_i k; rw [if_neg k] at h
          split
          · rename_i k; rw [if_pos k] at h; exact ⟨hs _ _ _ _ _ h, by omega⟩
          · rename_i k; rw [if_neg k] at h
            split
            · rename_i k; rw [if_pos k] at h; exact ⟨hs _ _ _ _ _ h, by omega⟩
            · rename_i k; rw [if_neg k] at h
              split
              · rename_i k; rw [if_pos k] at h; exact absurd rfl h
              · rename_i k; exact ⟨rfl, k⟩
end Go.Proofs.Ytopglbkcciigbaa
