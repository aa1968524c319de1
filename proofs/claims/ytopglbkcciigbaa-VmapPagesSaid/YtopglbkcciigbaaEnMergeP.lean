/- Lists of entries merged: the plain law. No conditions. -/
import Derived.Test.YtopglbkcciigbaaEnClipP
namespace Go.Proofs.Ytopglbkcciigbaa
set_option linter.unusedSimpArgs false
set_option linter.unusedVariables false
/-- What would go on behind an entry. -/
def onE (a b : Ent) : Ent := ⟨a.e, b.e, a.f, if 0 < a.f then a.o + (a.e - a.s) else a.o, a.sh, a.pr, a.mx, a.inh, a.adv, a.wi⟩
def joinE (a b : Ent) : Ent := ⟨a.s, b.e, a.f, a.o, a.sh, a.pr, a.mx, a.inh, a.adv, a.wi⟩
def mergeC : Ent → List Ent → List Ent
  | a, [] => [a]
  | a, x :: l => if onE a x = x then mergeC (joinE a x) l else a :: mergeC x l
def mergeL : List Ent → List Ent
  | [] => []
  | x :: l => mergeC x l
theorem onE_ends {a x : Ent} (h : onE a x = x) : a.e = x.s := by
  have e : (onE a x).s = x.s := by rw [h]
  exact e
theorem goodB_join {a x : Ent} (ha : goodB a = true) (hx : goodB x = true) (h : onE a x = x) : goodB (joinE a x) = true := by
  rw [goodB_iff] at ha hx ⊢
  obtain ⟨⟨a1, a2, a3, a4, a5⟩, hb, c1, c2⟩ := ha
  obtain ⟨⟨b1, b2, b3, b4, b5⟩, -, d1, d2⟩ := hx
  have e1 := onE_ends h
  have e2' : (onE a x).f = x.f := by rw [h]
  have e2 : a.f = x.f := e2'
  have e3 : (if 0 < a.f then a.o + (a.e - a.s) else a.o) = x.o := by
    have e3' : (onE a x).o = x.o := by rw [h]
    exact e3'
  refine ⟨⟨a1, by simp only [joinE]; omega, by simp only [joinE]; omega, a4, a5⟩, hb, c1, fun hf => ?_⟩
  have hf' : a.f ≠ 0 := hf
  rw [if_pos (by omega)] at e3
  have := d2 (by omega)
  simp only [joinE]; omega
theorem rightB_app {last : Int} : ∀ {p q : List Ent}, rightB last (p ++ q) = true → rightB last p = true
  | [], q, _ => rfl
  | x :: p, q, h => by
    rw [List.cons_append, rightB_cons] at h
    rw [rightB_cons]
    exact ⟨h.1, h.2.1, rightB_app h.2.2⟩
theorem rightB_join {last : Int} {a x : Ent} {r : List Ent} (ho : onE a x = x) : ∀ {p : List Ent}, rightB last (p ++ a :: x :: r) = true → rightB last (p ++ joinE a x :: r) = true
  | [], h => by
    rw [List.nil_append, rightB_cons, rightB_cons] at h
    rw [List.nil_append, rightB_cons]
    exact ⟨goodB_join h.1 h.2.2.1 ho, h.2.1, h.2.2.2.2⟩
  | y :: p, h => by
    rw [List.cons_append, rightB_cons] at h ⊢
    exact ⟨h.1, h.2.1, rightB_join ho h.2.2⟩
theorem rightB_mergeC : ∀ (l : List Ent) (a : Ent) (last : Int), rightB last (a :: l) = true → rightB last (mergeC a l) = true
  | [], a, last, h => h
  | x :: l, a, last, h => by
    unfold mergeC
    split
    · rename_i ho
      exact rightB_mergeC l _ last (rightB_join (p := []) ho h)
    · rw [rightB_cons] at h ⊢
      exact ⟨h.1, h.2.1, rightB_mergeC l x _ h.2.2⟩
theorem rightB_merge {last : Int} {l : List Ent} (h : rightB last l = true) : rightB last (mergeL l) = true := by
  cases l with
  | nil => rfl
  | cons x l => exact rightB_mergeC l x last h
theorem mergeC_len : ∀ (l : List Ent) (a : Ent), (mergeC a l).length ≤ l.length + 1
  | [], a => Nat.le_refl _
  | x :: l, a => by
    unfold mergeC
    split
    · have := mergeC_len l (joinE a x); simp; omega
    · have := mergeC_len l x; simp; omega
theorem mergeL_len (l : List Ent) : (mergeL l).length ≤ l.length := by
  cases l with
  | nil => exact Nat.le_refl _
  | cons x l => exact mergeC_len l x
/-- How far a merge has come. -/
def MInv (l out : List Ent) (i : Nat) : Prop :=
  (out = [] ∧ i = 0) ∨ ∃ acc a, out = acc ++ [a] ∧ mergeL l = acc ++ mergeC a (l.drop i) ∧ rightB 0 (acc ++ a :: l.drop i) = true
theorem minv_first {l : List Ent} {x : Ent} (hr : rightB 0 l = true) (hx : l[0]? = some x) : MInv l [x] 1 := by
  cases l with
  | nil => simp at hx
  | cons y l =>
    simp at hx; subst hx
    exact .inr ⟨[], y, rfl, rfl, hr⟩
theorem drop_at {l : List Ent} {i : Nat} {x : Ent} (hx : l[i]? = some x) : l.drop i = x :: l.drop (i + 1) := by
  have hi := (List.getElem?_eq_some_iff.1 hx).1
  have hx2 := (List.getElem?_eq_some_iff.1 hx).2
  rw [List.drop_eq_getElem_cons hi, hx2]
theorem MInv.join {l acc : List Ent} {a x : Ent} {i : Nat} (h : MInv l (acc ++ [a]) i) (hx : l[i]? = some x) (ho : onE a x = x) : MInv l (acc ++ [joinE a x]) (i + 1) := by
  rcases h with ⟨h0, _⟩ | ⟨acc', a', he, hm, hr⟩
  · simp at h0
  · obtain ⟨rfl, h2⟩ := List.append_inj' he rfl
    cases h2
    rw [drop_at hx] at hm hr
    refine .inr ⟨acc, joinE a x, rfl, ?_, rightB_join ho hr⟩
    rw [hm]
    show acc ++ (if onE a x = x then _ else _) = _
    rw [if_pos ho]
theorem MInv.app {l acc : List Ent} {a x : Ent} {i : Nat} (h : MInv l (acc ++ [a]) i) (hx : l[i]? = some x) (ho : ¬ onE a x = x) : MInv l (acc ++ [a] ++ [x]) (i + 1) := by
  rcases h with ⟨h0, _⟩ | ⟨acc', a', he, hm, hr⟩
  · simp at h0
  · obtain ⟨rfl, h2⟩ := List.append_inj' he rfl
    cases h2
    rw [drop_at hx] at hm hr
    refine .inr ⟨acc ++ [a], x, rfl, ?_, by simpa using hr⟩
    rw [hm]
    show acc ++ (if onE a x = x then _ else _) = _
    rw [if_neg ho]
    simp
theorem MInv.good {l acc : List Ent} {a : Ent} {i : Nat} (h : MInv l (acc ++ [a]) i) : goodB a = true := by
  rcases h with ⟨h0, _⟩ | ⟨acc', a', he, hm, hr⟩
  · simp at h0
  · obtain ⟨rfl, h2⟩ := List.append_inj' he rfl
    cases h2
    exact (rightB_mem hr a (by simp)).1
theorem MInv.last {l out : List Ent} (h : MInv l out l.length) : out = mergeL l := by
  rcases h with ⟨rfl, h0⟩ | ⟨acc, a, rfl, hm, hr⟩
  · rw [List.length_eq_zero_iff.1 h0]; rfl
  · rw [hm, List.drop_length]; rfl
theorem MInv.snoc {l out : List Ent} {i : Nat} (h : MInv l out i) (hi : 0 < i) : ∃ acc a, out = acc ++ [a] := by
  rcases h with ⟨rfl, h0⟩ | ⟨acc, a, rfl, hm, hr⟩
  · omega
  · exact ⟨acc, a, rfl⟩
end Go.Proofs.Ytopglbkcciigbaa
