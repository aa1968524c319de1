/- The last step of a law's row: it returned true, and nothing that was there has turned. No conditions. -/
import Derived.Test.YtopfknikmhkaeaaHeap
import Derived.ProofKit
import Derived.OpenShut
import Derived.ChangeSame
namespace Go.Proofs.Ytopfknikmhkaeaa
open Go.ChangeShapes Go.WideShapes Go.ChangeAt Go.RowKit
theorem Fr.toBelow {w w' : World} (h : Fr (fun _ => False) w w') : Below w.heap.size w w' := h.below (Nat.le_refl _) (fun _ h => h.elim)
section
variable {H : Type} {enc : TypeId × Value → H} {P : Program}
/-- What the row asks behind the call, where all old blocks stand. -/
theorem post_law {f : Func} {s : ChangeSpec} {apart fresh handsOn again : Bool} {W W' : World} {args : Array Value} {v : Value} {ds gs : List (DataW H)} {before pa pv : List MemPlace}
    (hW : DataW.Whole enc P f.params.toList s.vars apart W args.toList ds gs before)
    (hres : ∀ (b : Nat) (sp : Nat → Bool) (hd : Bool), DataW.TrodAll enc P W' b sp hd f.resultTypes.toList (v.resultList f.resultTypes.size) (s.fn H (ds ++ gs)).results [])
    (hargs : ∀ sp : Nat → Bool, (∀ p ∈ before, sp p.block = true) → DataW.TrodAll enc P W' 0 sp true f.params.toList args.toList (s.fn H (ds ++ gs)).args pa)
    (hvars : ∀ sp : Nat → Bool, (∀ p ∈ before, sp p.block = true) → DataW.TrodVars enc P W' sp s.vars (s.fn H (ds ++ gs)).vars pv)
    (hps : before = pa ++ pv) (hf : Fr (fun _ => False) W W')
    (hok : ∀ (j : Nat) (t : TypeId) (r : Value), f.resultTypes[j]? = some t → (v.resultList f.resultTypes.size)[j]? = some r → Value.okWide P W' .any 0 t r) :
    s.post enc P f apart fresh handsOn again W args v W' := by
  have below := hf.toBelow
  have old : ∀ p, p ∈ before → p.block < W.heap.size := fun p hp => hW.lt p hp
  have known : ∀ p, p ∈ before → (fun b => decide (b < W.heap.size)) p.block = true := fun p hp => decide_eq_true (old p hp)
  obtain ⟨_, _, _, _, _, notFrozen, twice⟩ := id hW
  refine ⟨ds, gs, before, [], pa, pv, hW, hres _ _ _, hargs _ known, hvars _ known, World.keptBut_mono (fun p hp => ⟨hp, ?_⟩) (below.frame (· ∈ before)), fun _ => ⟨hok, _, _, ([] ++ pa) ++ pv,
    ⟨[] ++ pa, pv, trodAll_append (hargs _ (fun _ _ => rfl)) (hres _ _ _), hvars _ (fun _ _ => rfl), rfl, fun b off hp => ?_, fun ha => ?_⟩, fun p hp _ => ?_⟩⟩
  · exact (List.mem_append.1 (hps ▸ hp)).imp_right id |>.elim (fun h => by simp [h]) (fun h => by simp [h])
  · have hin : MemPlace.cell b off ∈ before := by rw [hps]; exact hp
    rw [below.frozen (old _ hin)]
    exact notFrozen b off hin
  · have h2 := twice ha
    rw [hps] at h2
    exact h2
  · rw [hps]
    exact hp
end
end Go.Proofs.Ytopfknikmhkaeaa
