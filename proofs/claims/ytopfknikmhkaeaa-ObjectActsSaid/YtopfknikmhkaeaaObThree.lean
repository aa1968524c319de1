/- An argument that is an array of three numbers. No conditions. -/
import Derived.Test.YtopfknikmhkaeaaOpen
namespace Go.Proofs.Ytopfknikmhkaeaa
open Go.RowKit
set_option linter.unusedSimpArgs false
set_option linter.unusedVariables false
theorem open_three {H : Type} {enc : TypeId × Value → H} {P : Program} {w : World} {base : Nat} {spare : Nat → Bool} {held : Bool} {t e : TypeId} {v : Value} {d : DataW H} {p : List MemPlace} {r : Reach} {b0 : Nat}
    (ht : P.underlying t = some (.array 3 e)) (he : P.underlying e = some (.int .i64)) (hce : P.cellsOf e = 1) (hct : P.cellsOf t = 3) (hval : Value.okWide P w r b0 t v) (h : DataW.Trod enc P w base spare held t v d p) :
    ∃ a b c, v = .agg #[.int .i64 a, .int .i64 b, .int .i64 c] := by
  simp only [Value.okWide, ht] at hval
  obtain ⟨cs, rfl, h2, _⟩ := hval
  rw [hct] at h2
  obtain ⟨fuel, h⟩ := h
  obtain ⟨xs, m, _, ex, hlen, hl, hel⟩ := DataW.trod_array ht h
  have h0 := hel 0 (by omega)
  have h1 := hel 1 (by omega)
  have h3 := hel 2 (by omega)
  rw [hce] at h0 h1 h3
  obtain ⟨l⟩ := cs
  match l, h2 with
  | [c0, c1, c2], _ =>
    rw [List.getElem?_eq_getElem (by omega)] at h0 h1 h3
    simp only [Value.cells] at h0 h1 h3
    obtain ⟨a, ha, _⟩ := DataW.trod_int he h0
    obtain ⟨b, hb, _⟩ := DataW.trod_int he h1
    obtain ⟨c, hc, _⟩ := DataW.trod_int he h3
    simp at ha hb hc
    subst ha; subst hb; subst hc
    exact ⟨a, b, c, rfl⟩
end Go.Proofs.Ytopfknikmhkaeaa
