/- A map with whole-number keys, as the library's contracts on its sorted keys want it. Conditions: the keys are numbers of the kind. -/
import Derived.Test.YtopfknikmhkaeaaHeap
import Derived.Lib.SlKeysI
namespace Go.Proofs.Ytopfknikmhkaeaa
open Go.RowKit Go.Maps
set_option linter.unusedSimpArgs false
set_option linter.unusedVariables false
/-- Values are not looked at. -/
def noVal (v : Value) : Option (DataW Unit × List MemPlace) := some (.nil, [])
def wf64 (n : Int) : Prop := (Lit.int .i64 n).wf = true
theorem rg_int {P : Program} {K : TypeId} (hK : P.underlying K = some (.int .i64)) {x : MapEntry} {n : Int} (hx : x.key = .int .i64 n) (hn : wf64 n) : WideElems.rd P K noVal x = some (.int .i64 n, .nil) := by
  unfold WideElems.rd
  rw [hx, keyOf_int_mk hK hn]
  rfl
theorem insert_keys (x : Lit × DataW Unit) (l : List (Lit × DataW Unit)) : ((DataW.insert x l).map (fun p => Go.intOf p.1)).Perm (Go.intOf x.1 :: l.map (fun p => Go.intOf p.1)) := by
  have := (Go.WideShapes.insert_perm x l).map (fun p => Go.intOf p.1)
  simpa using this
theorem foldr_keys : ∀ l : List (Lit × DataW Unit), ((l.foldr DataW.insert []).map (fun p => Go.intOf p.1)).Perm (l.map (fun p => Go.intOf p.1))
  | [] => List.Perm.refl _
  | x :: l => by
    simp only [List.foldr_cons, List.map_cons]
    exact (insert_keys x _).trans ((foldr_keys l).cons _)
theorem mapis_owns {P : Program} {K : TypeId} {α : Type} {ev : α → Value} {w : World} {m : Nat} {l : List (Int × α)} (hK : P.underlying K = some (.int .i64)) (h : MapIs (fun n : Int => Value.int .i64 n) ev w m l)
    (hn : (l.map (·.1)).Nodup) (hw : ∀ k ∈ l.map (·.1), wf64 k) (hl : l.length ≤ maxLen) :
    ∃ D0 : DataW Unit, w.ownsMap P K noVal m l.length D0 ∧ (intKeys D0).Perm (l.map (·.1)) ∧ Maps.size D0 = l.length := by
  obtain ⟨es, clock, ho, hk, hv, hs1, hs2⟩ := h
  have hlen : es.toList.length = l.length := by have := congrArg List.length hk; simpa using this
  have hrd : ∀ x ∈ es.toList, ∃ n, x.key = .int .i64 n ∧ wf64 n := fun x hx => by
    have h1 : x.key ∈ es.toList.map (·.key) := List.mem_map_of_mem hx
    rw [hk] at h1
    obtain ⟨n, hn1, hn2⟩ := List.mem_map.1 h1
    exact ⟨n, hn2.symm, hw n hn1⟩
  have hmap : (es.toList.map (WideElems.rg P K noVal)).map (fun p => Go.intOf p.1) = l.map (·.1) := by
    have e1 : es.toList.map (fun x => (WideElems.rg P K noVal x)) = es.toList.map (fun x => WideElems.rg P K noVal x) := rfl
    have e2 : (es.toList.map (WideElems.rg P K noVal)).map (fun p => Go.intOf p.1) = (es.toList.map (·.key)).map (fun v => match v with | .int _ n => n | _ => 0) := by
      rw [List.map_map, List.map_map]
      refine List.map_congr_left fun x hx => ?_
      obtain ⟨n, h1, h2⟩ := hrd x hx
      simp only [Function.comp, WideElems.rg, rg_int hK h1 h2, Option.getD_some, h1]
      rfl
    rw [e2, hk, List.map_map]
    conv => rhs; rw [← List.map_id (l.map (·.1))]
    exact List.map_congr_left fun x _ => rfl
  refine ⟨.map ((es.toList.map (WideElems.rg P K noVal)).foldr DataW.insert []), ⟨es, clock, ho, ⟨?_, ⟨hs2, hs1, ?_⟩, fun x hx => ?_⟩, ?_, rfl⟩, ?_, ?_⟩
  · have : es.size = l.length := by simpa using hlen
    omega
  · rw [hk]
    exact (List.pairwise_map.2 (hn.imp (fun hne e => hne (by cases e; rfl))))
  · obtain ⟨n, h1, h2⟩ := hrd x hx
    exact ⟨_, rg_int hK h1 h2⟩
  · have : es.size = l.length := by simpa using hlen
    omega
  · have := foldr_keys (es.toList.map (WideElems.rg P K noVal))
    rw [hmap] at this
    exact this
  · have h1 := (foldr_keys (es.toList.map (WideElems.rg P K noVal))).length_eq
    simp only [List.length_map] at h1
    show List.length _ = _
    omega
theorem owns_sl {w : World} {base : Nat} {e : TypeId} {sz : Nat} {v : Value} {n : Nat} {xs : List Value} (h : w.ownsRow base e sz v n xs) : Sl w e sz v xs ∧ ∀ k, v.ownBlock = some k → base ≤ k := by
  obtain ⟨hl, h⟩ := h
  rcases h with ⟨rfl, rfl⟩ | ⟨g, cap, cur, rfl, hb, ho, hn, hc, hs, ht⟩
  · refine ⟨.inl ⟨rfl, ?_⟩, fun k hk => by cases hk⟩
    exact List.eq_nil_of_length_eq_zero (by omega)
  · refine ⟨.inr ⟨g, 0, n, cap, cur, rfl, ho, hl, hn, hc, by omega, by simpa using ht⟩, fun k hk => ?_⟩
    cases hk; exact hb
/-- The numbers in order. -/
def sortI (l : List Int) : List Int := l.mergeSort (fun x y => decide (x ≤ y))
theorem sortI_perm (l : List Int) : (sortI l).Perm l := List.mergeSort_perm l _
theorem sortI_of_perm {l l' : List Int} (h : l.Perm l') : sortI l = sortI l' := mergeSort_of_perm_i h
end Go.Proofs.Ytopfknikmhkaeaa
