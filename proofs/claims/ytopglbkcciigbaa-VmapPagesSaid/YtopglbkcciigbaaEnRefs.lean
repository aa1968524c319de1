/- pantryref15.Clip, joins, Merge. Conditions: a right list of at most 500 entries. -/
import Derived.Test.YtopglbkcciigbaaEnMerge
import Derived.Test.YtopglbkcciigbaaEnClipsP
namespace Go.Proofs.Ytopglbkcciigbaa
open Go.RowKit
set_option linter.unusedSimpArgs false
set_option linter.unusedVariables false
theorem app_fin2 {w wr W w3 : World} {v v2 : Value} {out : List Ent} {x y : Ent} (hs2 : Sl w3 28 10 v2 (out.flatMap ent ++ (ent x ++ ent y))) (hf : Fr (fun _ => False) w wr) (hf2 : Fr (fun _ => False) wr W) (hf3 : Fr (fun k => v.ownBlock = some k) W w3)
    (ho2 : v2.ownBlock = v.ownBlock ∨ ∃ k, v2.ownBlock = some k ∧ W.heap.size ≤ k) (hown : ∀ k, v.ownBlock = some k → w.heap.size ≤ k) : SE w3 v2 (out ++ [x, y]) ∧ (∀ k, v2.ownBlock = some k → w.heap.size ≤ k) ∧ Fr (fun _ => False) w w3 := by
  refine ⟨?_, fun k hk => ?_, (hf.also hf2).step hf3 (fun k hk => .inr (hown k hk))⟩
  · show Sl w3 28 10 v2 ((out ++ [x, y]).flatMap ent)
    rw [List.flatMap_append]
    simpa using hs2
  · rcases ho2 with ho2 | ⟨r, ho2, hr⟩
    · exact hown k (ho2 ▸ hk)
    · rw [ho2] at hk; cases hk
      exact Nat.le_trans (hf.also hf2).size hr
theorem clip_take {l : List Ent} {p : Int} {i : Nat} {x : Ent} (hx : l[i]? = some x) : clipL (l.take (i + 1)) p = clipL (l.take i) p ++ clip1 x p := by
  rw [List.take_add_one, hx]
  unfold clipL
  rw [List.flatMap_append]; simp
theorem clip_take_len (l : List Ent) (p : Int) (i : Nat) (hi : i ≤ l.length) : (clipL (l.take i) p).length ≤ 2 * i := by
  have : ∀ m : List Ent, (clipL m p).length ≤ 2 * m.length := fun m => by
    induction m with
    | nil => exact Nat.le_refl _
    | cons x m ih =>
      have e : clipL (x :: m) p = clip1 x p ++ clipL m p := rfl
      rw [e, List.length_append, List.length_cons]
      have : (clip1 x p).length ≤ 2 := by unfold clip1; split <;> simp
      omega
  have h1 := this (l.take i)
  rw [List.length_take, Nat.min_eq_left hi] at h1
  exact h1
def joinsB (a b : Ent) : Bool := decide (a.e = b.s) && (decide (a = ⟨a.s, a.e, b.f, a.o, b.sh, b.pr, b.mx, b.inh, b.adv, b.wi⟩) && (decide (a.f = 0) || decide (b.o = a.o + a.e - a.s)))
theorem joinsB_on {a b : Ent} (ha : goodB a = true) (hb : goodB b = true) : joinsB a b = decide (onE a b = b) := by
  have ga := goodE_of ha
  have gb := goodE_of hb
  rw [Bool.eq_iff_iff]
  unfold joinsB
  simp only [Bool.and_eq_true, Bool.or_eq_true, decide_eq_true_eq]
  obtain ⟨a1, a2, a3, a4, a5, a6, a7, a8, a9, a10⟩ := a
  obtain ⟨b1, b2, b3, b4, b5, b6, b7, b8, b9, b10⟩ := b
  have h1 := ga.f0
  have h2 := ga.fo
  have h3 := gb.fo
  simp only at h1 h2 h3
  unfold onE
  simp only [Ent.mk.injEq, true_and, and_true]
  constructor
  · rintro ⟨rfl, ⟨rfl, rfl, rfl, rfl, rfl, rfl, rfl⟩, h⟩
    refine ⟨rfl, rfl, ?_, rfl, rfl, rfl, rfl, rfl, rfl⟩
    by_cases hf : a3 = 0
    · rw [if_neg (by omega), h2 hf, h3 hf]
    · rw [if_pos (by omega)]
      rcases h with h | h
      · exact absurd h hf
      · omega
  · rintro ⟨rfl, rfl, ho, rfl, rfl, rfl, rfl, rfl, rfl⟩
    refine ⟨rfl, ⟨rfl, rfl, rfl, rfl, rfl, rfl, rfl⟩, ?_⟩
    by_cases hf : a3 = 0
    · exact .inl hf
    · right
      rw [if_pos (by omega)] at ho
      omega
end Go.Proofs.Ytopglbkcciigbaa
