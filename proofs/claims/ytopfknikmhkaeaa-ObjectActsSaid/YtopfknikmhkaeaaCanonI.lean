/- The law of drawn regions that one order serves, inside a round of a range over a function: for regions that call nothing. No conditions but those that a kernel check pays. -/
import Derived.Test.YtopfknikmhkaeaaCanonF
import Derived.OrdersIn
import Derived.TacticsIn
namespace Go.Proofs.Ytopfknikmhkaeaa
open Go.RowKit
set_option linter.unusedSimpArgs false
set_option linter.unusedVariables false
def plainOp (o : Oper) : Bool := match o.op with
  | .move _ | .assign _ | .load _ _ | .binOp _ _ _ _ _ | .unOp _ _ _ | .pick _ _ _ | .indexAddr _ _ _ | .fieldAddr _ _ _ => true
  | .call c => match c.callee with
    | .builtin .len => true
    | _ => false
  | _ => false
section
variable {P : Program} {ops : Array Oper} {K : Act → World → Prop} {F : Fence} {n : Nat}
theorem plain_val {o : Oper} {ρ : Operand → Value} (h : plainOp o = true) : ValOnly P (execOp ρ o) ∧ ∀ c, o.op ≠ .defer c := by
  obtain ⟨dst, op, type, pos, after, guard⟩ := o
  cases op <;> simp only [plainOp] at h <;> try (cases h; done)
  case call c =>
    obtain ⟨callee, args, ts⟩ := c
    cases callee <;> try (cases h; done)
    case builtin b =>
      cases b <;> try (cases h; done)
      exact ⟨ValOnly.v _, fun c h => by cases h⟩
  all_goals (refine ⟨?_, fun c h => by cases h⟩)
  all_goals first
    | exact ValOnly.pure _
    | exact ValOnly.v _
    | exact ValOnly.bind fun _ => ValOnly.pure _
    | exact ValOnly.bind fun _ => ValOnly.v _
theorem wpOpIn_of (hF : ∀ f, F.fn f) {i : Nat} {o : Oper} {a : Act} {w : World} {C C' : Act → World → Prop} (hi : ops[i]? = some o) (hp : plainOp o = true) (hC : ∀ a w, C a w → C' a w) (h : wpOp P ops (canonPost K) i C a w) :
    wpOpIn F n P ops (canonPost K) i C' a w := by
  obtain ⟨hv, hd⟩ := plain_val (P := P) (ρ := a.eval) hp
  unfold wpOp at h
  unfold wpOpIn
  simp only [hi] at h ⊢
  split
  · rename_i hw
    rw [if_pos hw] at h
    refine ⟨fun f _ => hF f, ?_⟩
    rw [Oper.semAt_eq _ _ _ hd]
    rcases h with h | ⟨_, _, _, h⟩
    · unfold Oper.wp at h
      cases hr : (execOp a.eval o).run P w with
      | ok m w' =>
        obtain ⟨v, rfl⟩ := hv _ _ _ hr
        rw [hr] at h
        exact hC _ _ h
      | halt x w' =>
        rw [hr] at h
        cases x <;> simp only [Oper.upon] at h
        exact h.elim
    · exact h.elim
  · rename_i hw
    rw [if_neg hw] at h
    exact ⟨fun f _ => hF f, hC _ _ h⟩
theorem wpAnyIn_of (hF : ∀ f, F.fn f) (hp : ops.all plainOp = true) : ∀ (fuel : Nat) (listed : Array Bool) (a : Act) (w : World), wpAny P .any ops (canonPost K) fuel listed a w → wpAnyIn F n P .any ops (canonPost K) fuel listed a w
  | 0, _, _, _, h => h
  | fuel + 1, listed, a, w, h => ⟨h.1, fun i hi => by
      obtain ⟨_, o, ho, _⟩ := mem_ready.1 hi
      refine wpOpIn_of hF ho ?_ (fun a w => wpAnyIn_of hF hp fuel _ a w) (h.2 i hi)
      rw [Array.all_eq_true] at hp
      obtain ⟨hl, he⟩ := Array.getElem?_eq_some_iff.1 ho
      rw [← he]
      exact hp i hl⟩
/-- **THE LAW**, in a fence. -/
theorem wpIn_region_canon {l : List Oper} {Q : Exit → Act → World → Prop} {a : Act} {w : World} {id : Nat} (hF : ∀ f, F.fn f) (order : List Nat) (hm : P.follows .mixedOrders = true) (hchk : canonB P l.toArray order = true) (hp : l.toArray.all plainOp = true)
    (h : ∀ K : Act → World → Prop, (∀ a w, calmAll l.toArray a = true → Q .normal a w → K a w) → wpList P l.toArray (canonPost K) (order.map (l.getD · default)) a w.drew) :
    (Code.region id l.toArray true).wpIn F n P Q a w := by
  simp only [canonB, Bool.and_eq_true, beq_iff_eq] at hchk
  obtain ⟨hin, ⟨⟨⟨h0, h1⟩, h2⟩, h3⟩, h4⟩ := hchk
  have hl := wpOps_list order a w.drew (fun i hi => by simpa using (List.all_eq_true.1 hin) i hi) (h (fun a w => calmAll l.toArray a = true ∧ Q .normal a w) (fun a w x y => ⟨x, y⟩))
  have hc : Closed l.toArray (Array.replicate l.toArray.size false) := fun k o ho hk => by
    have hlt := (Array.getElem?_eq_some_iff.1 ho).1
    exfalso
    rw [Array.getD_eq_getD_getElem?, Array.getElem?_replicate, if_pos hlt] at hk
    cases hk
  have hs := canon_sound h2 h3 h1 (fun a w h => h.1) order _ a w.drew hc h4 hl
  rw [h0] at hs
  refine Code.wpIn_mono (fun e a w hq => ?_) (wpIn_region_any hm (wpAnyIn_of hF hp _ _ _ _ hs))
  cases e <;> first | exact hq.2 | exact hq.elim
end
#print axioms wpIn_region_canon
end Go.Proofs.Ytopfknikmhkaeaa
