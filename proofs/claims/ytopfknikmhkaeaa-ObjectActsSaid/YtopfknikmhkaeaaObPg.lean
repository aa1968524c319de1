/- object.Pool.Pages: the sorted keys of an object's pages; what its range keeps. Conditions: at most 4096 pages, whose numbers are numbers of the kind. -/
import Derived.Test.YtopfknikmhkaeaaObE
import Derived.Test.YtopfknikmhkaeaaMarks
import Derived.Test.YtopfknikmhkaeaaObMake
namespace Go.Proofs.Ytopfknikmhkaeaa
open Go.RowKit
set_option linter.unusedSimpArgs false
set_option linter.unusedVariables false
attribute [local go_sem] Oper.semAt_some
/-- From A to B all stands but D's cells and, from B0 on, what is no cells. -/
structure K3 (B0 : Nat) (D : Nat → Prop) (A B : World) : Prop where
  k2 : K2 (fun _ => D) A B
  low : ∀ k o, k < B0 → ¬ D k → ob A k = some o → ob B k = some o
section
variable {B0 : Nat} {D : Nat → Prop} {A B C : World}
theorem K3.trans (h : K3 B0 D A B) (k : K3 B0 D B C) : K3 B0 D A C := ⟨h.k2.trans k.k2, fun i o hi hn ho => k.low i o hi hn (h.low i o hi hn ho)⟩
theorem K3.put {W : World} {l : Nat} {o o' : Obj} (hb : B0 ≤ l) (hl : W.heap[l]? = some o) (hc : o.isCells = false) : K3 B0 D W (W.putObj l o') :=
  ⟨K2.put hl hc (fun _ h => h), fun k o2 hk _ ho => by rw [ob_putObj_other (by omega)]; exact ho⟩
theorem K3.of_fr {S : Nat → Prop} (hf : Fr S A B) (hS : ∀ k, S k → k < A.heap.size → D k) : K3 B0 D A B :=
  ⟨K2.of_fr hf hS (fun _ h => .inl h), fun k o _ hn ho => hf.keep (fun hs => hn (hS k hs (ob_lt ho))) ho⟩
end
theorem keysB_call (pm : Nat) (W : World) : Calls Try.prog 37 #[.map (some pm)] W fun e w' => e = .returned (.func (.func 43) #[] #[.pointer (some ⟨W.heap.size, 0, none⟩)]) ∧ w' = W.alloc (.cells #[.map (some pm)] 72) :=
  (callsIn_wide (n := 5)).1 (AnyZI.keys_in keysB Fence.wide 5 trivial rfl (some pm) W)
theorem sortedB_call {W : World} {pm : Nat} {q : List (Int × Pg)} (h : MapIs ik pgV W pm q) (hn : (q.map (·.1)).Nodup) (hk : ObKeys q) :
    Calls Try.prog 34 #[.func (.func 43) #[] #[.pointer (some ⟨W.heap.size, 0, none⟩)]] (W.alloc (.cells #[.map (some pm)] 72)) fun e w' =>
      ∃ A N C, e = .returned (.slice A N C) ∧ Sl w' 3 1 (.slice A N C) (ints (idsOf q)) ∧ (∀ k, (Value.slice A N C).ownBlock = some k → W.heap.size ≤ k) ∧ Fr (fun _ => False) W w' := by
  obtain ⟨D0, hown, hD1, hD2⟩ := mapis_owns Try.underlying3 (ev := pgV) h hn hk.wf (by have := hk.few; unfold maxLen; omega)
  have hmax : Maps.size D0 ≤ maxLen := by have := hk.few; unfold maxLen; omega
  have hbytes : Maps.size D0 * 8 ≤ 140737488355328 := by have := hk.few; omega
  have hbl := hown.lt
  have hseq : SeqGives Fence.wide 2 Try.prog 43 #[.pointer (some ⟨W.heap.size, 0, none⟩)] encZ (fun ss => ss.Perm (intKeys D0)) (Maps.size D0) (W.alloc (.cells #[.map (some pm)] 72)) :=
    AnyZI.keys_gives (ρ := keysB_ren) { keysB with } Fence.wide _ trivial rfl (by omega) W.heap.size pm q.length D0 _ (by simp) (by simp) (by
      obtain ⟨es, clock, hb, Ft, hs, hD⟩ := hown
      exact ⟨es, clock, (Below.heap_alloc _ _ pm hbl).trans hb, Ft, hs, hD⟩)
  have cS := AnyZI.sorted_in sortedA Fence.wide 5 trivial trivial trivial trivial rfl (by omega) (sortsA _) (enters_of Try.func41 (by kernel_rfl) rfl) 43 #[.pointer (some ⟨W.heap.size, 0, none⟩)] trivial (enters_of Try.func43 (by kernel_rfl) rfl) _ _ hmax hbytes _ hseq
  change CallsIn _ _ Try.prog 34 _ _ _ at cS
  refine ((callsIn_wide).1 cS).mono ?_
  rintro e w' ⟨v, ss, rfl, hS, hrow, hnil, hb⟩
  obtain ⟨hsl, hob⟩ := owns_sl hrow
  obtain ⟨A, N, C, rfl⟩ := hsl.shape
  have e1 : (ss.mergeSort (fun x y => decide (x ≤ y))).map encZ = ints (idsOf q) := by
    show (sortI ss).map (Value.int .i64) = (sortI _).map (Value.int .i64)
    rw [sortI_of_perm (hS.trans hD1)]
  rw [e1] at hsl
  refine ⟨A, N, C, rfl, hsl, fun k hk => ?_, ?_⟩
  · have := hob k hk; simp at this; omega
  · exact ((Fr.refl _ W).alloc _).step (Fr.of_below hb) (fun _ h => h.elim)
/-- The pages between two indexes, rising. -/
def pagesR (q : List (Int × Pg)) (lo hi : Int) : List (Int × Pg) := (idsOf q).filterMap fun n => if lo ≤ n ∧ n < hi then (alGet q n).map (fun x => (n, x)) else none
end Go.Proofs.Ytopfknikmhkaeaa
