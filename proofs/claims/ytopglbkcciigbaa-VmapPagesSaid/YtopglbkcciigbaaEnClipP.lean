/- Lists of entries clipped: the plain law. No conditions. -/
import Derived.Test.YtopglbkcciigbaaEnIns
import Derived.Test.YtopglbkcciigbaaEnFind
namespace Go.Proofs.Ytopglbkcciigbaa
open Go.RowKit
set_option linter.unusedSimpArgs false
set_option linter.unusedVariables false
def cutA (x : Ent) (p : Int) : Ent := ⟨x.s, p, x.f, x.o, x.sh, x.pr, x.mx, x.inh, x.adv, x.wi⟩
def cutB (x : Ent) (p : Int) : Ent := ⟨p, x.e, x.f, if 0 < x.f then x.o + (p - x.s) else x.o, x.sh, x.pr, x.mx, x.inh, x.adv, x.wi⟩
def clip1 (x : Ent) (p : Int) : List Ent := if x.s < p ∧ p < x.e then [cutA x p, cutB x p] else [x]
def clipL (l : List Ent) (p : Int) : List Ent := l.flatMap (fun x => clip1 x p)
theorem rightB_cons {last : Int} {x : Ent} {l : List Ent} : rightB last (x :: l) = true ↔ goodB x = true ∧ last ≤ x.s ∧ rightB x.e l = true := by
  simp [rightB, and_assoc]
/-- What a good entry's numbers are. -/
structure GoodE (x : Ent) : Prop where
  s0 : 0 ≤ x.s
  se : x.s < x.e
  em : x.e ≤ 67108864
  f0 : 0 ≤ x.f
  o0 : 0 ≤ x.o
  fo : x.f = 0 → x.o = 0
  om : 0 < x.f → x.o ≤ 4096 - (x.e - x.s)
theorem goodE_of {x : Ent} (h : goodB x = true) : GoodE x := by
  unfold goodB at h
  simp only [Bool.and_eq_true, decide_eq_true_eq] at h
  obtain ⟨⟨⟨⟨⟨⟨⟨⟨⟨⟨⟨h1, h2⟩, h3⟩, h4⟩, h5⟩, -⟩, -⟩, -⟩, -⟩, -⟩, -⟩, h6⟩ := h
  refine ⟨h1, h2, h3, h4, h5, fun hf => ?_, fun hf => ?_⟩
  · rw [if_pos hf] at h6; simpa using h6
  · rw [if_neg (by omega)] at h6; simpa using h6
theorem rightB_mono {a b : Int} {l : List Ent} (h : rightB b l = true) (hab : a ≤ b) : rightB a l = true := by
  cases l with
  | nil => rfl
  | cons x l => rw [rightB_cons] at h ⊢; exact ⟨h.1, by omega, h.2.2⟩
theorem rightB_mem {last : Int} : ∀ {l : List Ent}, rightB last l = true → ∀ x ∈ l, goodB x = true ∧ last ≤ x.s
  | [], h, x, hx => by cases hx
  | y :: l, h, x, hx => by
    rw [rightB_cons] at h
    rcases List.mem_cons.1 hx with rfl | hx
    · exact ⟨h.1, h.2.1⟩
    · have h1 := rightB_mem h.2.2 x hx
      have h2 := (goodE_of h.1).se
      exact ⟨h1.1, by omega⟩
theorem ends_of_right {last : Int} : ∀ {l : List Ent}, rightB last l = true → Ends l
  | [], h => fun a b x y _ hx => by simp at hx
  | z :: l, h => fun a b x y hab hx hy => by
    rw [rightB_cons] at h
    have ih := ends_of_right h.2.2
    cases b with
    | zero =>
      have : a = 0 := by omega
      subst this
      simp at hx hy; subst hx; subst hy; omega
    | succ b =>
      have hy' : l[b]? = some y := by simpa using hy
      cases a with
      | zero =>
        simp at hx; subst hx
        have := rightB_mem h.2.2 y (List.mem_of_getElem? hy')
        have h2 := (goodE_of this.1).se
        omega
      | succ a => exact ih a b x y (by omega) (by simpa using hx) hy'
theorem clipL_low {p : Int} : ∀ {l : List Ent}, rightB p l = true → clipL l p = l
  | [], _ => rfl
  | x :: l, h => by
    rw [rightB_cons] at h
    have := (goodE_of h.1).se
    have ih := clipL_low (p := p) (rightB_mono h.2.2 (by omega))
    unfold clipL at ih ⊢
    rw [List.flatMap_cons, ih]
    unfold clip1
    rw [if_neg (by omega)]
    rfl
/-- What entry.Clip makes of a right list is the document's. -/
theorem clipL_walk {last : Int} (p : Int) : ∀ {l : List Ent}, rightB last l = true →
    (fok l p = false → clipL l p = l) ∧ ∀ x, l[fidx l p]? = some x → (x.s = p → clipL l p = l) ∧ (x.s < p → clipL l p = l.take (fidx l p) ++ cutA x p :: cutB x p :: l.drop (fidx l p + 1))
  | [], _ => ⟨fun _ => rfl, fun x hx => by simp at hx⟩
  | y :: l, h => by
    rw [rightB_cons] at h
    have hg := goodE_of h.1
    by_cases hy : y.e ≤ p
    · have ih := clipL_walk (last := y.e) p h.2.2
      have hfi : fidx (y :: l) p = fidx l p + 1 := by unfold fidx; rw [List.takeWhile_cons, if_pos (by simpa using hy)]; rfl
      have hfo : fok (y :: l) p = fok l p := by unfold fok; rw [hfi]; simp
      have hc : clipL (y :: l) p = y :: clipL l p := by
        unfold clipL clip1
        rw [List.flatMap_cons, if_neg (by omega)]; rfl
      rw [hfi, hfo, hc]
      refine ⟨fun h0 => by rw [ih.1 h0], fun x hx => ?_⟩
      have hx' : l[fidx l p]? = some x := by simpa using hx
      refine ⟨fun h0 => by rw [(ih.2 x hx').1 h0], fun h0 => by rw [(ih.2 x hx').2 h0]; simp⟩
    · have hfi : fidx (y :: l) p = 0 := by unfold fidx; rw [List.takeWhile_cons, if_neg (by simpa using hy)]; rfl
      have hlow : clipL l p = l := clipL_low (rightB_mono h.2.2 (by omega))
      have hc : clipL (y :: l) p = clip1 y p ++ l := by
        have : clipL (y :: l) p = clip1 y p ++ clipL l p := rfl
        rw [this, hlow]
      have hfo : fok (y :: l) p = decide (y.s ≤ p) := by unfold fok; rw [hfi]; rfl
      rw [hfi, hfo, hc]
      unfold clip1
      refine ⟨fun h0 => ?_, fun x hx => ?_⟩
      · rw [if_neg (by simp at h0; omega)]; rfl
      · simp at hx; subst hx
        exact ⟨fun h0 => by rw [if_neg (by omega)]; rfl, fun h0 => by rw [if_pos ⟨h0, by omega⟩]; rfl⟩
/-- Which entries may be, in words of numbers. -/
theorem goodB_iff {x : Ent} : goodB x = true ↔ (0 ≤ x.s ∧ x.s < x.e ∧ x.e ≤ 67108864 ∧ 0 ≤ x.f ∧ 0 ≤ x.o) ∧ (0 ≤ x.pr ∧ x.pr ≤ 7 ∧ 0 ≤ x.mx ∧ x.mx ≤ 7 ∧ permB x.pr x.mx = true ∧ 0 ≤ x.inh ∧ x.inh ≤ 2 ∧ 0 ≤ x.adv ∧ x.adv ≤ 4) ∧ (x.f = 0 → x.o = 0) ∧ (x.f ≠ 0 → x.o ≤ 4096 - (x.e - x.s)) := by
  unfold goodB
  by_cases hf : x.f = 0
  · rw [if_pos hf]; simp only [Bool.and_eq_true, decide_eq_true_eq, hf, true_implies, ne_eq, not_true_eq_false, false_implies, and_true]; constructor <;> (intro h; simp_all)
  · rw [if_neg hf]; simp only [Bool.and_eq_true, decide_eq_true_eq, hf, false_implies, ne_eq, not_false_eq_true, true_implies, true_and]; constructor <;> (intro h; simp_all)
theorem goodB_cut {x : Ent} {p : Int} (h : goodB x = true) (h1 : x.s < p) (h2 : p < x.e) : goodB (cutA x p) = true ∧ goodB (cutB x p) = true := by
  rw [goodB_iff] at h ⊢
  rw [goodB_iff]
  obtain ⟨⟨a1, a2, a3, a4, a5⟩, hb, c1, c2⟩ := h
  refine ⟨⟨⟨a1, h1, by simp only [cutA]; omega, a4, a5⟩, hb, c1, fun hf => ?_⟩, ⟨⟨by simp only [cutB]; omega, h2, a3, a4, ?_⟩, hb, fun hf => ?_, fun hf => ?_⟩⟩
  · have := c2 hf; simp only [cutA]; omega
  · simp only [cutB]; split <;> omega
  · have hf' : x.f = 0 := hf
    have := c1 hf'
    simp only [cutB]; rw [if_neg (by omega)]; exact this
  · have hf' : x.f ≠ 0 := hf
    have := c2 hf'
    simp only [cutB]; rw [if_pos (by omega)]; omega
theorem rightB_clip (p : Int) : ∀ {l : List Ent} {last : Int}, rightB last l = true → rightB last (clipL l p) = true
  | [], _, _ => rfl
  | x :: l, last, h => by
    rw [rightB_cons] at h
    have ih := rightB_clip p (last := x.e) h.2.2
    have e : clipL (x :: l) p = clip1 x p ++ clipL l p := rfl
    rw [e]
    unfold clip1
    split
    · rename_i hc
      obtain ⟨g1, g2⟩ := goodB_cut h.1 hc.1 hc.2
      simp only [List.cons_append, List.nil_append]
      rw [rightB_cons, rightB_cons]
      exact ⟨g1, h.2.1, g2, Int.le_refl _, ih⟩
    · simp only [List.cons_append, List.nil_append]
      rw [rightB_cons]
      exact ⟨h.1, h.2.1, ih⟩
theorem clipL_len {last : Int} {l : List Ent} (p : Int) (h : rightB last l = true) : l.length ≤ (clipL l p).length ∧ (clipL l p).length ≤ l.length + 1 := by
  have hw := clipL_walk p h
  cases hf : fok l p with
  | false => rw [hw.1 hf]; omega
  | true =>
    unfold fok at hf
    cases hx : l[fidx l p]? with
    | none => rw [hx] at hf; cases hf
    | some x =>
      rw [hx] at hf
      simp at hf
      have hi := (List.getElem?_eq_some_iff.1 hx).1
      by_cases hs : x.s = p
      · rw [(hw.2 x hx).1 hs]; omega
      · rw [(hw.2 x hx).2 (by omega)]; simp; omega
theorem SE.putEnd {w : World} {g off n cap : Nat} {l : List Ent} (h : SE w (.slice (some ⟨g, off, none⟩) n cap) l) {i : Nat} {x : Ent} (hx : l[i]? = some x) (p : Int) :
    SE (w.setCell ⟨g, off + i * 10 + 1, none⟩ (.int .i64 p)) (.slice (some ⟨g, off, none⟩) n cap) (l.set i (cutA x p)) := by
  have hi := (List.getElem?_eq_some_iff.1 hx).1
  have := Sl.put h (i * 10 + 1) [.int .i64 p] (by rw [len_ents]; simp; omega)
  simp only [World.setCells] at this
  rw [← Nat.add_assoc] at this
  have e1 : (l.set i (cutA x p)).flatMap ent = (l.flatMap ent).take (i * 10 + 1) ++ [.int .i64 p] ++ (l.flatMap ent).drop (i * 10 + 1 + 1) := by
    have e2 : l = l.take i ++ x :: l.drop (i + 1) := by
      have hx2 := (List.getElem?_eq_some_iff.1 hx).2
      rw [← hx2]; simp
    have e3 : l.set i (cutA x p) = l.take i ++ cutA x p :: l.drop (i + 1) := by rw [List.set_eq_take_append_cons_drop, if_pos hi]
    have hlt : ((l.take i).flatMap ent).length = i * 10 := by rw [len_ents, List.length_take]; omega
    rw [e3]
    conv => rhs; rw [e2]
    simp only [List.flatMap_append, List.flatMap_cons]
    rw [List.take_append, List.drop_append, hlt]
    have t1 : ((l.take i).flatMap ent).take (i * 10 + 1) = (l.take i).flatMap ent := List.take_of_length_le (by omega)
    have t2 : ((l.take i).flatMap ent).drop (i * 10 + 1 + 1) = [] := List.drop_of_length_le (by omega)
    rw [t1, t2, show i * 10 + 1 - i * 10 = 1 by omega, show i * 10 + 1 + 1 - i * 10 = 2 by omega]
    simp [ent, cutA]
  unfold SE
  rw [e1]
  exact this
end Go.Proofs.Ytopglbkcciigbaa
