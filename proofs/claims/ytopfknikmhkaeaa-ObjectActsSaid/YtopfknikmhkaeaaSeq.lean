/- What a loop over an iterator keeps: all cells but those of blocks that the world tells. No conditions. -/
import Derived.Test.YtopfknikmhkaeaaHeap
import Derived.RangeFuncNested
import Derived.RangeFuncBound
import Derived.RangeFuncCalls
import Derived.RangeFuncLeaves
import Derived.RangeFuncBox
import Derived.RangeFuncFrom
import Derived.RangeFuncWrites
namespace Go.Proofs.Ytopfknikmhkaeaa
open Go.RowKit
set_option linter.unusedSimpArgs false
set_option linter.unusedVariables false
/-- From A to B all cells stay but those of D's blocks; D's blocks are D's or new. -/
structure K2 (D : World → Nat → Prop) (A B : World) : Prop where
  size : A.heap.size ≤ B.heap.size
  keep : ∀ k c t f, ¬ D A k → ob A k = some (.cells c t f) → ob B k = some (.cells c t f)
  own : ∀ k, D B k → D A k ∨ A.heap.size ≤ k
section
variable {D : World → Nat → Prop} {A B C : World} {e : TypeId} {sz : Nat} {v : Value} {cs : List Value}
theorem K2.refl (D : World → Nat → Prop) (A : World) : K2 D A A := ⟨Nat.le_refl _, fun _ _ _ _ _ h => h, fun _ h => .inl h⟩
theorem K2.trans (h : K2 D A B) (k : K2 D B C) : K2 D A C where
  size := Nat.le_trans h.size k.size
  keep i c t f hn ho := k.keep i c t f (fun hd => (h.own i hd).elim hn (fun hl => by have := ob_lt ho; omega)) (h.keep i c t f hn ho)
  own i hd := (k.own i hd).elim (h.own i) (fun hl => .inr (Nat.le_trans h.size hl))
theorem K2.of_fr {S : Nat → Prop} (hf : Fr S A B) (hS : ∀ k, S k → k < A.heap.size → D A k) (ho : ∀ k, D B k → D A k ∨ A.heap.size ≤ k) : K2 D A B :=
  ⟨hf.size, fun k c t f hn hk => hf.keep (fun hs => hn (hS k hs (ob_lt hk))) hk, ho⟩
theorem K2.sl (h : K2 D A B) (hs : Sl A e sz v cs) (hn : ∀ k, v.ownBlock = some k → ¬ D A k) : Sl B e sz v cs := by
  rcases hs with h0 | ⟨g, off, n, cap, row, rfl, ho, hr⟩
  · exact .inl h0
  · exact .inr ⟨g, off, n, cap, row, rfl, h.keep g _ _ _ (hn g rfl) ho, hr⟩
theorem K2.off (h : K2 D A B) {k : Nat} (hk : k < A.heap.size) (hn : ¬ D A k) : ¬ D B k := fun hd => (h.own k hd).elim hn (fun hl => by omega)
theorem K2.put {W : World} {l : Nat} {o o' : Obj} (hl : W.heap[l]? = some o) (hc : o.isCells = false) (hd : ∀ k, D (W.putObj l o') k → D W k) : K2 D W (W.putObj l o') where
  size := (grownBy_putObj' W l o').size
  keep k c t f _ ho := by
    have hne : k ≠ l := fun e => by
      subst e
      have h2 : W.heap[k]? = some (.cells c t f) := ho
      rw [hl] at h2; cases h2; cases hc
    exact ((grownBy_putObj' W l o').block k (ob_lt ho) (fun e => hne (by cases e; rfl))).trans ho
  own k hk := .inl (hd k hk)
theorem fr_grown (h : Fr (fun _ => False) A B) : A.grownBy B none := ⟨h.os, h.tape, h.output, h.size, fun k hk _ => h.block k hk (fun h => h)⟩
theorem below_fr {n : Nat} (h : Below n A B) (hn : n = A.heap.size) : Fr (fun _ => False) A B := by subst hn; exact Fr.of_below h
end
end Go.Proofs.Ytopfknikmhkaeaa
