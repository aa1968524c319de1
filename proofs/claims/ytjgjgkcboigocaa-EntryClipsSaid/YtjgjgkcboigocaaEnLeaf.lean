/- An entry's ten cells are an entry. No conditions. -/
import Derived.Test.YtjgjgkcboigocaaEn
namespace Go.Proofs.Ytjgjgkcboigocaa
open Go.ChangeShapes Go.WideShapes Go.RowKit
def entK : List Leaf := [.int .i64, .int .i64, .int .i64, .int .i64, .bool, .int .i64, .int .i64, .int .i64, .int .i64, .bool]
/-- Its numbers are int's. -/
structure WfE (x : Ent) : Prop where
  s : (Lit.int .i64 x.s).wf = true
  e : (Lit.int .i64 x.e).wf = true
  f : (Lit.int .i64 x.f).wf = true
  o : (Lit.int .i64 x.o).wf = true
  pr : (Lit.int .i64 x.pr).wf = true
  mx : (Lit.int .i64 x.mx).wf = true
  inh : (Lit.int .i64 x.inh).wf = true
  adv : (Lit.int .i64 x.adv).wf = true
theorem leaf_ent (cs : List Value) (h : leafAll entK cs) : ∃ x : Ent, ent x = cs ∧ WfE x := by
  obtain ⟨hl, h⟩ := h
  obtain ⟨a, ha, m, rfl, h0⟩ := h 0 _ rfl
  obtain ⟨b, hb, n, rfl, h1⟩ := h 1 _ rfl
  obtain ⟨c, hc, o, rfl, h2⟩ := h 2 _ rfl
  obtain ⟨d, hd, p, rfl, h3⟩ := h 3 _ rfl
  obtain ⟨e, he, q, rfl⟩ := h 4 _ rfl
  obtain ⟨f, hf, r, rfl, h5⟩ := h 5 _ rfl
  obtain ⟨g, hg, s, rfl, h6⟩ := h 6 _ rfl
  obtain ⟨i, hi, t, rfl, h7⟩ := h 7 _ rfl
  obtain ⟨j, hj, u, rfl, h8⟩ := h 8 _ rfl
  obtain ⟨k, hk, v, rfl⟩ := h 9 _ rfl
  match cs, hl, ha, hb, hc, hd, he, hf, hg, hi, hj, hk with
  | [_, _, _, _, _, _, _, _, _, _], _, rfl, rfl, rfl, rfl, rfl, rfl, rfl, rfl, rfl, rfl => exact ⟨⟨m, n, o, p, q, r, s, t, u, v⟩, rfl, ⟨h0, h1, h2, h3, h5, h6, h7, h8⟩⟩
end Go.Proofs.Ytjgjgkcboigocaa
