/- pantrylaw05.Act: five numbers. No conditions. -/
import Derived.Test.YtehgfhcpjeepkaaOpen
import Derived.Test.YtehgfhcpjeepkaaTabF
namespace Go.Proofs.Ytehgfhcpjeepkaa
open Go.ChangeShapes Go.WideShapes Go.RowKit
/-- An act: its kind, its key, its entry. -/
structure ActV where
  kind : Int
  k : K2
  e : K2
def actS (a : ActV) : List Value := [.int .i64 a.kind, .int .i64 a.k.1, .int .i64 a.k.2, .int .i64 a.e.1, .int .i64 a.e.2]
theorem leaf_act (cs : List Value) (h : leafAll [.int .i64, .int .i64, .int .i64, .int .i64, .int .i64] cs) : ∃ x : ActV, actS x = cs ∧ True := by
  obtain ⟨hl, h⟩ := h
  obtain ⟨a, ha, m, rfl, _⟩ := h 0 _ rfl
  obtain ⟨b, hb, n, rfl, _⟩ := h 1 _ rfl
  obtain ⟨c, hc, o, rfl, _⟩ := h 2 _ rfl
  obtain ⟨d, hd, p, rfl, _⟩ := h 3 _ rfl
  obtain ⟨e, he, q, rfl, _⟩ := h 4 _ rfl
  match cs, hl, ha, hb, hc, hd, he with
  | [_, _, _, _, _], _, rfl, rfl, rfl, rfl, rfl => exact ⟨⟨m, (n, o), (p, q)⟩, rfl, trivial⟩
/-- An argument that is a struct of numbers. -/
theorem open_flat {H : Type} {enc : TypeId × Value → H} {P : Program} {w : World} {base : Nat} {spare : Nat → Bool} {held : Bool} {t : TypeId} {fs : Array Field} {n : Nat} {ks : List Leaf} {v : Value} {d : DataW H} {p : List MemPlace} {r : Reach} {b0 : Nat}
    (ht : P.underlying t = some (.struct fs)) (hks : leaves P n t = some ks) (hval : Value.okWide P w r b0 t v) (h : DataW.Trod enc P w base spare held t v d p) : ∃ cs, v = .agg cs ∧ leafAll ks cs.toList := by
  obtain ⟨cs, rfl, _⟩ := okWide_struct ht hval
  obtain ⟨fuel, h⟩ := h
  exact ⟨cs, rfl, trod_leaves n t ks hks fuel _ _ h⟩
end Go.Proofs.Ytehgfhcpjeepkaa
