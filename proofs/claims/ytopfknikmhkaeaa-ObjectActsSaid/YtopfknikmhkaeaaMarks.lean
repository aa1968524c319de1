/- Marks of ranges over functions that are over, in a frame's list of deferred calls; a function against nil. No conditions. -/
import Derived.Test.YtopfknikmhkaeaaSeq
import Derived.Test.YtopfknikmhkaeaaStar
namespace Go.Proofs.Ytopfknikmhkaeaa
open Go.RowKit
set_option linter.unusedSimpArgs false
set_option linter.unusedVariables false
set_option linter.unusedSectionVars false
def marks (Ds : List Nat) : List Deferred := Ds.map fun D => { target := .collected D, args := #[] }
theorem ob_putObj_other {w : World} {k l : Nat} {o : Obj} (h : k ≠ l) : ob (w.putObj l o) k = ob w k := by
  unfold ob World.putObj
  simp [Array.getElem?_setIfInBounds_ne (Ne.symm h)]
theorem leaves_marks {F : Fence} {n : Nat} {P : Program} {fn : Func} {tmps : Array Value} {R : Ending → World → Prop} {B : Nat} : ∀ (Ds : List Nat) (w : World), Ds.Nodup → (∀ D ∈ Ds, ob w D = some (.deferred (some [])) ∧ B ≤ D) → B ≤ w.heap.size →
    (∀ w', Below B w w' → (∀ k c t f, ob w k = some (.cells c t f) → ob w' k = some (.cells c t f)) → LeavesIn F n P fn tmps R [] .returning w') → LeavesInM F n P fn tmps R (marks Ds) .returning w
  | [], w, _, _, _, h => h w (Below.refl _ _) (fun _ _ _ _ h => h)
  | D :: Ds, w, hn, hd, hb, h => by
    rw [List.nodup_cons] at hn
    have hD := hd D (by simp)
    have hlt := ob_lt hD.1
    refine ⟨by simp, .inl ⟨D, _, rfl, run_takeDeferred hD.1, ?_⟩⟩
    have hbel : Below B w (w.putObj D (.deferred none)) := (Below.refl B w).grown (grownBy_putObj' w D _) hb (fun k e => by cases e; exact hD.2)
    refine leaves_marks Ds _ hn.2 (fun D' hD' => ?_) (by simpa using hb) (fun w' hw' hc => h w' (hbel.trans hw') (fun k c t f hk => hc k c t f ?_))
    · have hne : D' ≠ D := fun e => hn.1 (e ▸ hD')
      rw [ob_putObj_other hne]
      exact hd D' (by simp [hD'])
    · have hne : k ≠ D := fun e => by rw [e, hD.1] at hk; cases hk
      rw [ob_putObj_other hne]; exact hk
/-- A range whose iterator yields nothing. -/
theorem wpIn_range_empty {P : Program} {F : Fence} {n : Nat} {α : Type} {g : Operand} {ps : Array Tmp} {body : Code} {Q : Exit → Act → World → Prop} {a : Act} {w : World}
    (hro : F.round = none) (h1 : 1 ≤ n) {gf : Nat} {lb : Array Value} (hg : a.eval g = .func (.func gf) #[] lb) (hFg : F.fn gf) (eg : ∀ args w, (callFunc gf args).run P w = .ok (.enter gf args) w)
    {encs : α → Array Value} (hseq : SeqStopsK F (n - 1) P gf lb encs (K2 (fun _ _ => False)) (fun ys => ys = []) (fun pre => pre <+: []) 0 w) (hps : ∀ x, (encs x).size = ps.size)
    (hdone : ∀ (D : Nat) (W : World), w.heap.size ≤ D → Fr (fun _ => False) w W → ob W D = some (.deferred (some [])) → Q .normal { a with defers := { target := .collected D, args := #[] } :: a.defers } W) :
    (Code.rangeFunc g ps Code.skip body).wpIn F n P Q a w := by
  refine wpIn_rangeFunc_ownF hro h1 hg hFg eg hseq K2.trans (fun W l o o' _ hl hc _ => K2.put hl hc (fun _ h => h)) (Below.refl _ _) hps
    (fun pre W => Below w.heap.size w W) (fun c pre W => False ∧ Below w.heap.size w W) (ownFrom_below (Nat.le_refl _) (Nat.le_refl _))
    (fun c => OwnFrom.and (Own.from (fun s A B row hs hg hr => hs) _) (ownFrom_below (Nat.le_refl _) (Nat.le_refl _))) (Below.refl _ _)
    (fun x => { tmps := (ps.zip (encs x)).foldl (fun t (p, v) => t.setIfInBounds p v) a.tmps, defers := [] }) ?_ ?_ ?_ ?_
  · intro l x W K hK
    exact wpIn_skip hK
  · rintro l pre x W _ hlt
    exact absurd hlt (Nat.not_lt_zero _)
  · rintro D ys W hD rfl hB hK
    exact hdone D W hD (below_fr hB rfl) hK
  · rintro D c pre W hD hpre ⟨hF, hB⟩ hK
    exact hF.elim
theorem eql_func_nil {P : Program} (w : World) (t : TypeId) {ps rs : Array TypeId} {vr : Bool} (f : Fn) (x y : Array Value) (h : P.underlying t = some (.func ps rs vr)) : (binOp .eql t (.func f x y) .nilFunc).run P w = .ok (.bool false) w := by
  have h1 : (Op.equal t (.func f x y) .nilFunc).run P w = .ok false w := by
    unfold Op.equal Op.maxDepth Op.equalIn
    rw [Sem.run_bind, run_und h]
    rfl
  change Sem.run P (Op.equal t (.func f x y) .nilFunc >>= _) w = _
  rw [Sem.run_bind, h1]
  rfl
end Go.Proofs.Ytopfknikmhkaeaa
