/- Arguments opened to cells; the last step of a law's row. No conditions. -/
import Derived.Test.YtopfknikmhkaeaaRow
import Derived.Deep.Slices
import Derived.Carry
namespace Go.Proofs.Ytopfknikmhkaeaa
open Go.ChangeShapes Go.WideShapes Go.ChangeAt Go.RowKit Go.Deep
set_option linter.unusedSimpArgs false
set_option linter.unusedVariables false
inductive Leaf where
  | int (k : IntKind)
  | bool
def leafOk : Leaf → Value → Prop
  | .int k, v => ∃ n, v = .int k n ∧ (Lit.int k n).wf = true
  | .bool, v => ∃ b, v = .bool b
def leavesAll (P : Program) (rec : TypeId → Option (List Leaf)) : List Field → List Leaf → Option (List Leaf)
  | [], acc => some acc
  | f :: fs, acc => match rec f.type with
    | some l => if f.offset = acc.length ∧ P.cellsOf f.type = l.length then leavesAll P rec fs (acc ++ l) else none
    | none => none
/-- The cells of a type of numbers and bools, structs of such. -/
def leaves (P : Program) : Nat → TypeId → Option (List Leaf)
  | 0, _ => none
  | n + 1, t => match P.underlying t with
    | some (.int k) => some [.int k]
    | some .bool => some [.bool]
    | some (.struct fs) => match leavesAll P (leaves P n) fs.toList [] with
      | some l => if P.cellsOf t = l.length then some l else none
      | none => none
    | _ => none
def leafAll (ks : List Leaf) (cs : List Value) : Prop := cs.length = ks.length ∧ ∀ (i : Nat) (k : Leaf), ks[i]? = some k → ∃ v, cs[i]? = some v ∧ leafOk k v
section
variable {H : Type} {enc : TypeId × Value → H} {P : Program} {w : World} {base : Nat} {spare : Nat → Bool} {held : Bool}
theorem leavesAll_grows {rec : TypeId → Option (List Leaf)} : ∀ (fs : List Field) (acc l : List Leaf), leavesAll P rec fs acc = some l → acc <+: l
  | [], acc, l, h => by cases h; exact List.prefix_refl _
  | f :: fs, acc, l, h => by
    simp only [leavesAll] at h
    cases hr : rec f.type with
    | none => rw [hr] at h; cases h
    | some lf =>
      rw [hr] at h
      dsimp only at h
      split at h
      · exact (List.prefix_append _ _).trans (leavesAll_grows fs _ l h)
      · cases h
theorem leavesAll_ok {rec : TypeId → Option (List Leaf)} {cs : List Value} : ∀ (fs : List Field) (acc l : List Leaf), leavesAll P rec fs acc = some l → cs.length = l.length →
    (∀ f ∈ fs, ∀ lf, rec f.type = some lf → P.cellsOf f.type = lf.length → leafAll lf ((cs.drop f.offset).take (P.cellsOf f.type))) →
    (∀ (i : Nat) (k : Leaf), i < acc.length → l[i]? = some k → ∃ v, cs[i]? = some v ∧ leafOk k v) → ∀ (i : Nat) (k : Leaf), l[i]? = some k → ∃ v, cs[i]? = some v ∧ leafOk k v
  | [], acc, l, h, hl, hf, ha, i, k, hi => by
    cases h
    exact ha i k (List.getElem?_eq_some_iff.1 hi).1 hi
  | f :: fs, acc, l, h, hl, hf, ha, i, k, hi => by
    simp only [leavesAll] at h
    cases hr : rec f.type with
    | none => rw [hr] at h; cases h
    | some lf =>
      rw [hr] at h
      dsimp only at h
      split at h
      · rename_i hc
        refine leavesAll_ok fs (acc ++ lf) l h hl (fun g hg => hf g (by simp [hg])) (fun j q hj hq => ?_) i k hi
        by_cases hja : j < acc.length
        · exact ha j q hja hq
        · have h1 := hf f (by simp) lf hr hc.2
          obtain ⟨t, ht⟩ := leavesAll_grows fs (acc ++ lf) l h
          rw [List.length_append] at hj
          have hlj : lf[j - acc.length]? = some q := by
            rw [← ht, List.getElem?_append_left (by simp; omega), List.getElem?_append_right (by omega)] at hq
            exact hq
          obtain ⟨v, hv, hok⟩ := h1.2 _ _ hlj
          refine ⟨v, ?_, hok⟩
          rw [List.getElem?_take] at hv
          split at hv
          · rw [List.getElem?_drop, hc.1] at hv
            rw [show acc.length + (j - acc.length) = j by omega] at hv
            exact hv
          · cases hv
      · cases h
theorem trod_leaves : ∀ (n : Nat) (t : TypeId) (ks : List Leaf), leaves P n t = some ks → ∀ (fuel : Nat) (cs : List Value) (x : DataW H × List MemPlace), DataW.trod enc P w base spare held fuel t cs = some x → leafAll ks cs
  | 0, t, ks, h => by cases h
  | n + 1, t, ks, h => by
    intro fuel cs x hx
    simp only [leaves] at h
    cases hu : P.underlying t with
    | none => rw [hu] at h; cases h
    | some u =>
      rw [hu] at h
      cases u <;> try (cases h; done)
      case int k =>
        cases h
        obtain ⟨m, rfl, _, hw⟩ := DataW.trod_int hu hx
        refine ⟨rfl, fun i q hi => ?_⟩
        cases i with
        | zero => cases hi; exact ⟨_, rfl, m, rfl, hw⟩
        | succ i => simp at hi
      case bool =>
        cases h
        obtain ⟨m, rfl, _⟩ := DataW.trod_bool hu hx
        refine ⟨rfl, fun i q hi => ?_⟩
        cases i with
        | zero => cases hi; exact ⟨_, rfl, m, rfl⟩
        | succ i => simp at hi
      case struct fs =>
        dsimp only at h
        cases hl : leavesAll P (leaves P n) fs.toList [] with
        | none => rw [hl] at h; cases h
        | some l =>
          rw [hl] at h
          dsimp only at h
          split at h
          · rename_i hc
            cases h
            obtain ⟨xs, fu, _, _, hlen, hxl, hf⟩ := DataW.trod_struct hu hx
            have hcl : cs.length = ks.length := by rw [hlen, hc]
            refine ⟨hcl, leavesAll_ok fs.toList [] ks hl hcl (fun f hfm lf hlf hcf => ?_) (fun i k hi => by simp at hi)⟩
            obtain ⟨i, hi, rfl⟩ := List.getElem_of_mem hfm
            have h1 := hf i fs.toList[i] (by simp)
            have hxi : xs[i]? = some (xs[i]'(by simp at hi; omega)) := List.getElem?_eq_getElem _
            rw [hxi] at h1
            exact trod_leaves n _ lf hlf _ _ _ h1
          · cases h
/-- v is a slice whose cells, as they are read, are cs. -/
def Rd (w : World) (sz : Nat) (v : Value) (cs : List Value) : Prop :=
  (v = .slice none 0 0 ∧ cs = []) ∨ ∃ a n cap, v = .slice (some a) n cap ∧ cs.length = n * sz ∧ ∀ j u, cs[j]? = some u → w.cell? (a.add j) = some u
theorem Rd.len {sz : Nat} {v : Value} {cs : List Value} (h : Rd w sz v cs) : cs.length = sliceLen v * sz := by
  rcases h with ⟨rfl, rfl⟩ | ⟨a, n, cap, rfl, hl, _⟩
  · simp [sliceLen]
  · exact hl
theorem Rd.form {sz : Nat} {v : Value} {cs : List Value} (h : Rd w sz v cs) (hn : cs ≠ []) : ∃ g off n cap, v = .slice (some ⟨g, off, none⟩) n cap ∧ g < w.heap.size ∧ (∀ j u, cs[j]? = some u → w.cell? ⟨g, off + j, none⟩ = some u) ∧ cs.length = n * sz := by
  rcases h with ⟨rfl, rfl⟩ | ⟨a, n, cap, rfl, hl, hc⟩
  · exact absurd rfl hn
  · cases cs with
    | nil => exact absurd rfl hn
    | cons x cs =>
      have h0 := hc 0 x rfl
      obtain ⟨g, off, sp⟩ := a
      have hsp : sp = none := by
        unfold World.cell? Addr.add at h0
        simp only [if_true] at h0
        split at h0
        · cases sp with
          | none => rfl
          | some s => simp at h0
        · cases h0
      subst hsp
      exact ⟨g, off, n, cap, rfl, World.block_lt_of_cell? w _ h0, fun j u hu => by have := hc j u hu; rwa [Addr.add_lit] at this, hl⟩
theorem Rd.of {sz : Nat} {v : Value} {cs : List Value} {w1 : World} {S : Nat → Prop} (h : Rd w sz v cs) (hf : Fr S w w1) (hn : ∀ k, S k → w.heap.size ≤ k) : Rd w1 sz v cs := by
  rcases h with h | ⟨a, n, cap, rfl, hl, hc⟩
  · exact .inl h
  · refine .inr ⟨a, n, cap, rfl, hl, fun j u hu => ?_⟩
    have h1 := hc j u hu
    have hlt := World.block_lt_of_cell? w _ h1
    rw [hf.cell (fun h2 => by have := hn _ h2; omega) hlt]
    exact h1
theorem Sl.rd {e : TypeId} {sz : Nat} {v : Value} {cs : List Value} (h : Sl w e sz v cs) : Rd w sz v cs := by
  rcases h with h | ⟨g, off, n, cap, row, rfl, ho, hl, hc, hm, hs, ht⟩
  · exact .inl h
  · refine .inr ⟨_, n, cap, rfl, hl, fun j u hu => ?_⟩
    rw [Addr.add_lit, cell_of_ob ho]
    rw [← ht, List.getElem?_take] at hu
    split at hu
    · simpa using hu
    · cases hu
/-- A slice of flat structs that came in is a list of Lean's own values. -/
theorem open_list {κ : Type} {enc1 : κ → List Value} {Good : κ → Prop} {t e : TypeId} {n : Nat} {ks : List Leaf} {v : Value} {d : DataW H} {p : List MemPlace} (ht : P.underlying t = some (.slice e)) (hks : leaves P n e = some ks) (hC : P.cellsOf e = ks.length)
    (hdec : ∀ cs, leafAll ks cs → ∃ x, enc1 x = cs ∧ Good x) (hv : v.cells.toList = [v]) (h : DataW.Trod enc P w base spare held t v d p) :
    ∃ xs : List κ, Rd w ks.length v (xs.flatMap enc1) ∧ (∀ x ∈ xs, Good x) ∧ sliceLen v = xs.length ∧ (∃ ao n cap, v = .slice ao n cap ∧ n ≤ cap ∧ cap ≤ maxLen) ∧ ∀ x ∈ xs, (enc1 x).length = ks.length := by
  obtain ⟨fuel, h⟩ := h
  rw [hv] at h
  rcases open_slice ht h with ⟨h0, _⟩ | ⟨a, len, cap, m, fu, D, Pl, hcs, hb, hl, hm, hmm, hx, hi⟩
  · simp only [List.cons.injEq, and_true] at h0
    exact ⟨[], .inl ⟨h0, rfl⟩, by simp, by rw [h0]; rfl, ⟨_, _, _, h0, Nat.le_refl _, by decide⟩, by simp⟩
  · simp only [List.cons.injEq, and_true] at hcs
    subst hcs
    have hlm : len ≤ m := by rw [hmm]; split <;> omega
    have key : ∀ q, q ≤ len → ∃ xs : List κ, xs.length = q ∧ (∀ x ∈ xs, Good x) ∧ (∀ x ∈ xs, (enc1 x).length = ks.length) ∧ (xs.flatMap enc1).length = q * ks.length ∧ ∀ j u, (xs.flatMap enc1)[j]? = some u → w.cell? (a.add j) = some u := by
      intro q
      induction q with
      | zero => intro _; exact ⟨[], rfl, by simp, by simp, by simp, by simp⟩
      | succ q ih =>
        intro hq
        obtain ⟨xs, h1, h2, h2', h3, h4⟩ := ih (by omega)
        obtain ⟨cs', hc, ht'⟩ := hi q (by omega)
        have hlf := trod_leaves n e ks hks _ _ _ ht'
        obtain ⟨x, hx1, hx2⟩ := hdec cs' hlf
        obtain ⟨_, hcl, hat⟩ := World.cells?_some hc
        refine ⟨xs ++ [x], by simp [h1], fun y hy => ?_, fun y hy => ?_, by simp [h3, hx1, hlf.1, Nat.add_mul], fun j u hu => ?_⟩
        · rcases List.mem_append.1 hy with hy | hy
          · exact h2 y hy
          · simp at hy; subst hy; exact hx2
        · rcases List.mem_append.1 hy with hy | hy
          · exact h2' y hy
          · simp at hy; subst hy; rw [hx1]; exact hlf.1
        · rw [List.flatMap_append] at hu
          by_cases hj : j < (xs.flatMap enc1).length
          · rw [List.getElem?_append_left hj] at hu
            exact h4 j u hu
          · rw [List.getElem?_append_right (by omega)] at hu
            simp only [List.flatMap_cons, List.flatMap_nil, List.append_nil, hx1] at hu
            have hjl := (List.getElem?_eq_some_iff.1 hu).1
            have := hat (j - (xs.flatMap enc1).length) (by rw [hC]; have := hlf.1; omega)
            rw [hu] at this
            rw [← this, hC]
            have e1 : (a.add (q * ks.length)).add (j - (xs.flatMap enc1).length) = a.add j := by
              rw [Go.Deep.add_add]
              congr 1
              omega
            rw [e1]
    obtain ⟨xs, h1, h2, h2', h3, h4⟩ := key len (Nat.le_refl _)
    exact ⟨xs, .inr ⟨a, len, cap, rfl, h3, h4⟩, h2, by simp [sliceLen, h1], ⟨_, _, _, rfl, hl, hm⟩, h2'⟩
end
end Go.Proofs.Ytopfknikmhkaeaa
