/- An entry's ten cells are an entry. No conditions. -/
import Derived.Test.YtopglbkcciigbaaEn
import Derived.OpenShut
namespace Go.Proofs.Ytopglbkcciigbaa
open Go.ChangeShapes Go.WideShapes Go.RowKit
def entK : List Leaf := [.int .i64, .int .i64, .int .i64, .int .i64, .bool, .int .i64, .int .i64, .int .i64, .int .i64, .bool]
/-- Its numbers are int's. -/
structure WfE (x : Ent) : Prop where
  s : (Lit.int .i64 x.s).wf = true
  e : (Lit.int .i64 x.e).wf = true
  f : (Lit.int .i64 x.f).wf = true
  o : (Lit.int .i64 x.o).wf = true
  pr : (Lit.int .i64 x.pr).wf = true
  mx : (Lit.int .i64 x.mx).wf = true
  inh : (Lit.int .i64 x.inh).wf = true
  adv : (Lit.int .i64 x.adv).wf = true
theorem leaf_ent (cs : List Value) (h : leafAll entK cs) : ∃ x : Ent, ent x = cs ∧ WfE x := by
  obtain ⟨hl, h⟩ := h
  obtain ⟨a, ha, m, rfl, h0⟩ := h 0 _ rfl
  obtain ⟨b, hb, n, rfl, h1⟩ := h 1 _ rfl
  obtain ⟨c, hc, o, rfl, h2⟩ := h 2 _ rfl
  obtain ⟨d, hd, p, rfl, h3⟩ := h 3 _ rfl
  obtain ⟨e, he, q, rfl⟩ := h 4 _ rfl
  obtain ⟨f, hf, r, rfl, h5⟩ := h 5 _ rfl
  obtain ⟨g, hg, s, rfl, h6⟩ := h 6 _ rfl
  obtain ⟨i, hi, t, rfl, h7⟩ := h 7 _ rfl
  obtain ⟨j, hj, u, rfl, h8⟩ := h 8 _ rfl
  obtain ⟨k, hk, v, rfl⟩ := h 9 _ rfl
  match cs, hl, ha, hb, hc, hd, he, hf, hg, hi, hj, hk with
  | [_, _, _, _, _, _, _, _, _, _], _, rfl, rfl, rfl, rfl, rfl, rfl, rfl, rfl, rfl, rfl => exact ⟨⟨m, n, o, p, q, r, s, t, u, v⟩, rfl, ⟨h0, h1, h2, h3, h5, h6, h7, h8⟩⟩
/-- An argument that is an entry. -/
theorem open_ent {H : Type} {enc : TypeId × Value → H} {P : Program} {w : World} {base : Nat} {spare : Nat → Bool} {held : Bool} {t : TypeId} {fs : Array Field} {n : Nat} {v : Value} {d : DataW H} {p : List MemPlace} {r : Reach} {b0 : Nat}
    (ht : P.underlying t = some (.struct fs)) (hks : leaves P n t = some entK) (hval : Value.okWide P w r b0 t v) (h : DataW.Trod enc P w base spare held t v d p) : ∃ x : Ent, v = .agg #[.int .i64 x.s, .int .i64 x.e, .int .i64 x.f, .int .i64 x.o, .bool x.sh, .int .i64 x.pr, .int .i64 x.mx, .int .i64 x.inh, .int .i64 x.adv, .bool x.wi] ∧ WfE x := by
  obtain ⟨cs, rfl, _⟩ := okWide_struct ht hval
  obtain ⟨fuel, h⟩ := h
  obtain ⟨x, hx, hw⟩ := leaf_ent _ (trod_leaves n t entK hks fuel _ _ h)
  refine ⟨x, ?_, hw⟩
  have e : cs = (ent x).toArray := by rw [hx]; simp [Value.cells]
  rw [e]; rfl
/-- An argument that is two numbers. -/
theorem open_two {H : Type} {enc : TypeId × Value → H} {P : Program} {w : World} {base : Nat} {spare : Nat → Bool} {held : Bool} {t e : TypeId} {v : Value} {d : DataW H} {p : List MemPlace} {r : Reach} {b0 : Nat}
    (ht : P.underlying t = some (.array 2 e)) (he : P.underlying e = some (.int .i64)) (hce : P.cellsOf e = 1) (hct : P.cellsOf t = 2) (hval : Value.okWide P w r b0 t v) (h : DataW.Trod enc P w base spare held t v d p) :
    ∃ a b, v = .agg #[.int .i64 a, .int .i64 b] := by
  simp only [Value.okWide, ht] at hval
  obtain ⟨cs, rfl, h2, _⟩ := hval
  rw [hct] at h2
  obtain ⟨fuel, h⟩ := h
  obtain ⟨xs, m, _, ex, hlen, hl, hel⟩ := DataW.trod_array ht h
  have h0 := hel 0 (by omega)
  have h1 := hel 1 (by omega)
  rw [hce] at h0 h1
  obtain ⟨l⟩ := cs
  match l, h2 with
  | [c0, c1], _ =>
    rw [List.getElem?_eq_getElem (by omega)] at h0 h1
    simp only [Value.cells] at h0 h1
    obtain ⟨a, ha, _⟩ := DataW.trod_int he h0
    obtain ⟨b, hb, _⟩ := DataW.trod_int he h1
    simp at ha hb
    subst ha; subst hb
    exact ⟨a, b, rfl⟩
end Go.Proofs.Ytopglbkcciigbaa
