/- anon.Pool: Ids, Sum. Conditions: bounds on lengths; the keys are numbers of the kind; references between 0 and 1000000. -/
import Derived.Test.YtalinhpdibdlkaaAnIter
import Derived.Test.YtalinhpdibdlkaaKeysSorted
import Derived.WalkKit
import Derived.OwnWalkIn
import Derived.TacticsInMore
namespace Go.Proofs.Ytalinhpdibdlkaa
open Go.RowKit
set_option linter.unusedSimpArgs false
set_option linter.unusedVariables false
attribute [local go_sem] Oper.semAt_some
/-- slices.Sort's two contracts here. -/
theorem sortsA (m : Nat) : AnyZI.SortsIn Try.prog sortedA_ren Fence.wide m :=
  ⟨fun blk off cap ss W hH hblk hsz => callsIn_wide.2 (AnyM.slices_Sort_int sortA blk off cap ss W hH hblk hsz),
   fun p cap W => callsIn_wide.2 (AnyM.slices_Sort_int_none sortA p cap W)⟩
/-- The keys of a pool, in order. -/
def idsOf (l : List (Int × A3)) : List Int := sortI (l.map (·.1))
theorem idsOf_perm (l : List (Int × A3)) : (idsOf l).Perm (l.map (·.1)) := sortI_perm _
theorem idsOf_len (l : List (Int × A3)) : (idsOf l).length = l.length := by have := (idsOf_perm l).length_eq; simpa using this
structure Keys (l : List (Int × A3)) : Prop where
  nodup : (l.map (·.1)).Nodup
  wf : ∀ k ∈ l.map (·.1), wf64 k
  few : l.length ≤ 4096
section
variable {Pr : Nat → Prop} {W1 w w1 : World} {b m : Nat} {most last : Int} {free : List Int} {l : List (Int × A3)}
set_option maxRecDepth 100000 in
set_option maxHeartbeats 2000000 in
theorem ids_any (h : PoolX Pr W1 w b m most last free l) (hk : Keys l) :
    Calls Try.prog 23 #[.pointer (some ⟨b, 0, none⟩)] w fun e w' => ∃ A N C, e = .returned (.slice A N C) ∧ Sl w' 3 1 (.slice A N C) (ints (idsOf l)) ∧ (∀ k, (Value.slice A N C).ownBlock = some k → w.heap.size ≤ k) ∧ Fr (fun _ => False) w w' := by
  obtain ⟨fv, hT, _⟩ := h
  have c2 : w.cell? ⟨b, 2, none⟩ = some (.map (some m)) := cell_of_ob hT.blk 2
  obtain ⟨D0, hown, hD1, hD2⟩ := mapis_owns Try.underlying3 (ev := a3) hT.all hk.nodup hk.wf (by have := hk.few; unfold maxLen; omega)
  have hmax : Maps.size D0 ≤ maxLen := by have := hk.few; unfold maxLen; omega
  have hbytes : Maps.size D0 * 8 ≤ 140737488355328 := by have := hk.few; omega
  have hbl := hown.lt
  have hmade := made_any hT
  refine (callsIn_wide (n := 6)).1 ?_
  have hseq : SeqGives Fence.wide 2 Try.prog 36 #[.pointer (some ⟨w.heap.size, 0, none⟩)] encZ (fun ss => ss.Perm (intKeys D0)) (Maps.size D0) (w.alloc (.cells #[.map (some m)] 60)) :=
    AnyZI.keys_gives (ρ := keysA_ren) { keysA with } Fence.wide _ trivial rfl (by omega) w.heap.size m l.length D0 _ (by simp) (by simp) (by
      obtain ⟨es, clock, hb, Ft, hs, hD⟩ := hown
      exact ⟨es, clock, (Below.heap_alloc _ _ m hbl).trans hb, Ft, hs, hD⟩)
  have cK : ∀ mb W, CallsIn Fence.wide 5 Try.prog 32 #[.map mb] W fun e w' => e = .returned (.func (.func 36) #[] #[.pointer (some ⟨W.heap.size, 0, none⟩)]) ∧ w' = W.alloc (.cells #[.map mb] 60) := fun mb W => AnyZI.keys_in keysA Fence.wide 5 trivial rfl mb W
  have cS := AnyZI.sorted_in sortedA Fence.wide 5 trivial trivial trivial trivial rfl (by omega) (sortsA _) (enters_of Try.func35 (by kernel_rfl) rfl) 36 #[.pointer (some ⟨w.heap.size, 0, none⟩)] trivial (enters_of Try.func36 (by kernel_rfl) rfl) _ _ hmax hbytes _ hseq
  change CallsIn _ _ Try.prog 31 _ _ _ at cS
  have hfK : Fence.wide.fn 32 := trivial
  have hfS : Fence.wide.fn 31 := trivial
  have hfM : Fence.wide.fn 26 := trivial
  refine callsIn_of_wp Try.func23 rfl trivial ?_ rfl
  simp only [Try.ntmps23, List.size_toArray, List.length_cons, List.length_nil, Nat.reduceAdd, Nat.reduceSub, Array.replicate_succ, Array.replicate_zero, List.push_toArray, List.append_toArray, List.nil_append, List.cons_append]
  gi_wp2_with (first
    | (gi_at_call 26; refine (callsIn_wide.2 hmade).mono ?_; rintro e w' ⟨rfl, rfl⟩)
    | (gi_at_call 32; refine (cK _ _).mono ?_; rintro e w' ⟨rfl, rfl⟩)
    | (gi_at_call 31; refine cS.mono ?_; rintro e w' ⟨v, ss, rfl, hS, hrow, hnil, hb⟩))
  go_ret
  obtain ⟨hsl, hob⟩ := owns_sl hrow
  obtain ⟨A, N, C, rfl⟩ := hsl.shape
  have e1 : (ss.mergeSort (fun x y => decide (x ≤ y))).map encZ = ints (idsOf l) := by
    show (sortI ss).map (Value.int .i64) = (sortI _).map (Value.int .i64)
    rw [sortI_of_perm (hS.trans hD1)]
  rw [e1] at hsl
  refine ⟨A, N, C, rfl, hsl, fun k hk => ?_, ?_⟩
  · have := hob k hk; simp at this; omega
  · exact ((Fr.refl _ w).alloc _).step (Fr.of_below hb) (fun _ h => h.elim)
end
end Go.Proofs.Ytalinhpdibdlkaa
