/- The last step of a law's row, for arguments of whatever type: each reads as it did, since no old block has turned. No conditions. -/
import Derived.Test.YtopfknikmhkaeaaRow
import Derived.Carry
namespace Go.Proofs.Ytopfknikmhkaeaa
open Go.ChangeShapes Go.WideShapes Go.ChangeAt Go.RowKit
/-- One closed fact ('by kernel_rfl'): each parameter's type can be read and is a row of the table. -/
def rowed (P : Program) (ts : List TypeId) : Bool := ts.all fun t => P.readableRec t && decide (t < P.types.size)
section
variable {H : Type} {enc : TypeId × Value → H} {P : Program}
theorem trodAll_carry (hl : laidOutB P = true) {W W' : World} (hb : Below W.heap.size W W') :
    ∀ {ts : List TypeId} {vs : List Value} {ds : List (DataW H)} {ps : List MemPlace}, rowed P ts = true → DataW.TrodAll enc P W 0 (fun _ => true) true ts vs ds ps → (∀ x ∈ ps, x.block < W.heap.size) →
      DataW.TrodAll enc P W' 0 (fun b => decide (b < W.heap.size)) true ts vs ds ps
  | [], _, _, _, _, h, _ => by obtain ⟨rfl, rfl, rfl⟩ := trodAll_nil h; exact trodAll_mk0
  | t :: ts, _, _, _, hr, h, hlt => by
    obtain ⟨v, vs, d, ds, p, q, rfl, rfl, rfl, h0, h1⟩ := trodAll_cons h
    simp only [rowed, List.all_cons, Bool.and_eq_true, decide_eq_true_eq] at hr
    exact trodAll_cons_mk (hb.trod hl hr.1.1 hr.1.2 h0 (fun x hx => hlt x (List.mem_append_left _ hx))) (trodAll_carry hl hb hr.2 h1 (fun x hx => hlt x (List.mem_append_right _ hx)))
/-- It returned true, and nothing that was there has turned: what a law's row asks. -/
theorem post_true {f : Func} {s : ChangeSpec} {apart fresh handsOn : Bool} {W W' : World} {args : Array Value} {ds gs : List (DataW H)} {before : List MemPlace} {bt : TypeId}
    (hl : laidOutB P = true) (hr : rowed P f.params.toList = true) (hrt : f.resultTypes = #[bt]) (hbt : P.underlying bt = some .bool) (hv : s.vars = [])
    (hs : (s.fn H (ds ++ gs)).results = [.lit (.bool true)] ∧ (s.fn H (ds ++ gs)).args = ds ∧ (s.fn H (ds ++ gs)).vars = [])
    (hW : DataW.Whole enc P f.params.toList s.vars apart W args.toList ds gs before) (hf : Fr (fun _ => False) W W') :
    s.post enc P f apart fresh handsOn false W args (.bool true) W' := by
  have below := hf.toBelow
  obtain ⟨p, q, hA, hV, e, _, _⟩ := id hW
  have old : ∀ x ∈ before, x.block < W.heap.size := fun x hx => hW.lt x hx
  rw [hv] at hV
  obtain ⟨rfl, rfl⟩ := trodVars_none hV
  rw [List.append_nil] at e
  subst e
  refine ⟨ds, _, _, [], _, [], hW, ?_, ?_, ?_, World.keptBut_mono (fun x hx => ⟨hx, .inr (.inl hx)⟩) (below.frame (· ∈ before)), fun h => by cases h⟩
  · rw [hrt, hs.1]
    exact trodAll_cons_mk (shut_bool hbt _) trodAll_mk0
  · rw [hs.2.1]
    exact trodAll_carry hl below hr hA old
  · rw [hs.2.2, hv]
    rfl
end
end Go.Proofs.Ytopfknikmhkaeaa
