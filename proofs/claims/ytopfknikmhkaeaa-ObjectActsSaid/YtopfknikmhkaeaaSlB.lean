/- Slices: a few cells set in place; the rest behind the first element. No conditions. -/
import Derived.Test.YtopfknikmhkaeaaHeap
namespace Go.Proofs.Ytopfknikmhkaeaa
open Go.RowKit
set_option linter.unusedSimpArgs false
set_option linter.unusedVariables false
section
variable {w w1 : World} {e : TypeId} {sz : Nat} {v : Value} {cs : List Value} {S : Nat → Prop} {g off n cap : Nat}
theorem Sl.put (h : Sl w e sz (.slice (some ⟨g, off, none⟩) n cap) cs) (p : Nat) (vs : List Value) (hp : p + vs.length ≤ cs.length) :
    Sl (w.setCells g (off + p) vs) e sz (.slice (some ⟨g, off, none⟩) n cap) (cs.take p ++ vs ++ cs.drop (p + vs.length)) := by
  rcases h with ⟨h0, _⟩ | ⟨g', off', n', cap', row, heq, ho, hl, hc, hm, hs, ht⟩
  · cases h0
  · cases heq
    have hle : n * sz ≤ cap * sz := Nat.mul_le_mul_right _ hc
    have hlen : off + p + vs.length ≤ row.size := by omega
    refine .inr ⟨g, off, n, cap, _, rfl, ob_setCells _ _ w _ ho, ?_, hc, hm, ?_, ?_⟩
    · simp; omega
    · have := congrArg List.length (rowPut_list vs (off + p) row hlen)
      simp only [Array.length_toList, List.length_append, List.length_take, List.length_drop] at this
      omega
    · rw [rowPut_list vs (off + p) row hlen]
      have hrs : row.toList.length = row.size := by simp
      apply List.ext_getElem?
      intro i
      rw [← ht]
      simp only [List.getElem?_take, List.getElem?_drop, List.getElem?_append, List.length_take, List.length_drop, List.length_append, Array.length_toList]
      have e1 : min p (min (n * sz) (row.size - off)) = p := by omega
      have e2 : min (off + p) row.size = off + p := by omega
      rw [e1, e2]
      by_cases h1 : i < n * sz
      · rw [if_pos h1]
        by_cases h2 : i < p
        · rw [if_pos (by omega), if_pos (by omega), if_pos (by omega), if_pos (by omega), if_pos h2, if_pos h1, if_pos h2]
        · by_cases h3 : i < p + vs.length
          · rw [if_pos (by omega), if_neg (by omega), if_pos (by omega), if_neg h2]
            congr 1; omega
          · rw [if_neg (by omega), if_neg (by omega), if_pos (by omega)]
            congr 1; omega
      · rw [if_neg h1, if_neg (by omega), if_neg (by omega)]
theorem Sl.tail (h : Sl w e sz (.slice (some ⟨g, off, none⟩) n cap) cs) (k : Nat) (hk : k ≤ n) : Sl w e sz (.slice (some ⟨g, off + k * sz, none⟩) (n - k) (cap - k)) (cs.drop (k * sz)) := by
  rcases h with ⟨h0, _⟩ | ⟨g', off', n', cap', row, heq, ho, hl, hc, hm, hs, ht⟩
  · cases h0
  · cases heq
    have e1 : (n - k) * sz = n * sz - k * sz := Nat.sub_mul _ _ _
    have e2 : (cap - k) * sz = cap * sz - k * sz := Nat.sub_mul _ _ _
    have e3 : k * sz ≤ n * sz := Nat.mul_le_mul_right _ hk
    have e4 : n * sz ≤ cap * sz := Nat.mul_le_mul_right _ hc
    refine .inr ⟨g, off + k * sz, n - k, cap - k, row, rfl, ho, by rw [List.length_drop, hl, e1], by omega, by omega, by rw [e2]; omega, ?_⟩
    rw [← ht, e1, ← List.drop_drop, List.drop_take]
theorem Sl.tail0 (h : Sl w e sz (.slice (some ⟨g, off, none⟩) n cap) cs) : Sl w e sz (.slice (some ⟨g, off, none⟩) 0 0) [] := by
  rcases h with ⟨h0, _⟩ | ⟨g', off', n', cap', row, heq, ho, hl, hc, hm, hs, ht⟩
  · cases h0
  · cases heq
    exact .inr ⟨g, off, 0, 0, row, rfl, ho, by simp, by omega, by decide, by omega, by simp⟩
theorem Sl.shape (h : Sl w e sz v cs) : ∃ A N C, v = .slice A N C := by
  rcases h with ⟨rfl, _⟩ | ⟨g, off, n, cap, row, rfl, _⟩ <;> exact ⟨_, _, _, rfl⟩
theorem Sl.ncap {A : Option Addr} (h : Sl w e sz (.slice A n cap) cs) : n ≤ cap ∧ cap ≤ maxLen := by
  rcases h with ⟨h0, _⟩ | ⟨g', off', n', cap', row, heq, ho, hl, hc, hm, hs, ht⟩
  · cases h0; exact ⟨Nat.le_refl _, by decide⟩
  · cases heq; exact ⟨hc, hm⟩
theorem Sl.builtAt (w : World) (row : List Value) (n g : Nat) (hg : g = w.heap.size) (hl : row.length = n * sz) (hm : n ≤ maxLen) : Sl (w.alloc (.cells row.toArray e)) e sz (.slice (some ⟨g, 0, none⟩) n n) row := by
  subst hg
  exact Sl.built w row n hl hm
end
end Go.Proofs.Ytopfknikmhkaeaa
