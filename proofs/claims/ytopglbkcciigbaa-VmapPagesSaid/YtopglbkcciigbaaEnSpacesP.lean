/- EntrySpaces: the plain law. No conditions. -/
import Derived.Test.YtopglbkcciigbaaEnInsP
import Derived.Test.YtopglbkcciigbaaEnMergeP
namespace Go.Proofs.Ytopglbkcciigbaa
set_option linter.unusedSimpArgs false
set_option linter.unusedVariables false
/-! ### Merged twice is merged once -/
theorem onE_alike {a x y : Ent} (h1 : x.s = y.s) (h2 : x.f = y.f) (h3 : x.o = y.o) (h4 : x.sh = y.sh) (h5 : x.pr = y.pr) (h6 : x.mx = y.mx) (h7 : x.inh = y.inh) (h8 : x.adv = y.adv) (h9 : x.wi = y.wi) : onE a x = x ↔ onE a y = y := by
  obtain ⟨x1, x2, x3, x4, x5, x6, x7, x8, x9, x10⟩ := x
  obtain ⟨y1, y2, y3, y4, y5, y6, y7, y8, y9, y10⟩ := y
  simp only at h1 h2 h3 h4 h5 h6 h7 h8 h9
  subst h1 h2 h3 h4 h5 h6 h7 h8 h9
  unfold onE
  simp only [Ent.mk.injEq, true_and]
/-- x and y differ in their ends alone. -/
def Alike (x y : Ent) : Prop := x.s = y.s ∧ x.f = y.f ∧ x.o = y.o ∧ x.sh = y.sh ∧ x.pr = y.pr ∧ x.mx = y.mx ∧ x.inh = y.inh ∧ x.adv = y.adv ∧ x.wi = y.wi
theorem mergeC_head : ∀ (l : List Ent) (a : Ent), ∃ b r, mergeC a l = b :: r ∧ Alike a b
  | [], a => ⟨a, [], rfl, rfl, rfl, rfl, rfl, rfl, rfl, rfl, rfl, rfl⟩
  | x :: l, a => by
    unfold mergeC
    split
    · obtain ⟨b, r, h1, h2⟩ := mergeC_head l (joinE a x)
      exact ⟨b, r, h1, h2⟩
    · exact ⟨a, _, rfl, rfl, rfl, rfl, rfl, rfl, rfl, rfl, rfl, rfl⟩
theorem mergeC_twice : ∀ (l : List Ent) (a : Ent), mergeL (mergeC a l) = mergeC a l
  | [], a => rfl
  | x :: l, a => by
    unfold mergeC
    split
    · exact mergeC_twice l _
    · rename_i h
      obtain ⟨b, r, h1, h2, h3, h4, h5, h6, h7, h8, h9, h10⟩ := mergeC_head l x
      have ih := mergeC_twice l x
      rw [h1] at ih ⊢
      show (if onE a b = b then _ else a :: mergeC b r) = a :: b :: r
      rw [if_neg (fun hb => h ((onE_alike h2 h3 h4 h5 h6 h7 h8 h9 h10).2 hb))]
      have ih' : mergeC b r = b :: r := ih
      rw [ih']
theorem mergeL_twice (l : List Ent) : mergeL (mergeL l) = mergeL l := by
  cases l with
  | nil => rfl
  | cons x l => exact mergeC_twice l x
/-! ### Where there is said to be space no page has an entry -/
theorem roomF_ge {n : Int} : ∀ {l : List Ent} {p : Int}, rightB 0 l = true → (∀ x ∈ l, p < x.e) → p ≤ roomF l p n
  | [], p, _, _ => Int.le_refl _
  | x :: l, p, h, hp => by
    have h1 := hp x (List.mem_cons_self ..)
    rw [rightB_cons] at h
    unfold roomF
    split
    · exact Int.le_refl _
    · have hr : rightB 0 l = true := rightB_mono h.2.2 (by have := (goodE_of h.1).s0; have := (goodE_of h.1).se; omega)
      have := roomF_ge (n := n) hr (p := x.e) (fun y hy => by
        have := rightB_mem h.2.2 y hy
        have h2 := (goodE_of this.1).se
        omega)
      omega
theorem roomF_free {n : Int} (hn : 1 ≤ n) : ∀ {l : List Ent} {p : Int}, rightB 0 l = true → (∀ x ∈ l, p < x.e) → ∀ x ∈ l, x.e ≤ roomF l p n ∨ roomF l p n + n ≤ x.s
  | [], p, _, _, x, hx => by cases hx
  | y :: l, p, h, hp, x, hx => by
    rw [rightB_cons] at h
    have hr : rightB 0 l = true := rightB_mono h.2.2 (by have := (goodE_of h.1).s0; have := (goodE_of h.1).se; omega)
    have hl : ∀ z ∈ l, y.e < z.e := fun z hz => by
      have := rightB_mem h.2.2 z hz
      have h2 := (goodE_of this.1).se
      omega
    unfold roomF
    split
    · rename_i hc
      right
      rcases List.mem_cons.1 hx with rfl | hx
      · omega
      · have := (rightB_mem h.2.2 x hx).2
        have := (goodE_of h.1).se
        omega
    · rcases List.mem_cons.1 hx with rfl | hx
      · left; exact roomF_ge hr hl
      · exact roomF_free hn hr hl x hx
theorem drop_high {l : List Ent} {p : Int} (h : rightB 0 l = true) : ∀ x ∈ l.drop (fidx l p), p < x.e := by
  intro x hx
  obtain ⟨t, ht, hx2⟩ := List.getElem_of_mem hx
  have hxt : l[fidx l p + t]? = some x := by
    rw [← List.getElem?_drop, List.getElem?_eq_getElem ht, hx2]
  cases hy : l[fidx l p]? with
  | none =>
    have := List.getElem?_eq_none_iff.1 hy
    have := (List.getElem?_eq_some_iff.1 hxt).1
    omega
  | some y =>
    have h1 := fidx_at l p y hy
    have h2 := ends_of_right h (fidx l p) (fidx l p + t) y x (by omega) hy hxt
    omega
theorem roomR_free {l : List Ent} {p n : Int} (hn : 1 ≤ n) (h : rightB 0 l = true) : ∀ x ∈ l, x.e ≤ roomR l p n ∨ roomR l p n + n ≤ x.s := by
  intro x hx
  have hd := drop_high (p := p) h
  have hge := roomF_ge (n := n) (rightB_drop (fidx l p) h) hd
  rw [← List.take_append_drop (fidx l p) l] at hx
  rcases List.mem_append.1 hx with hx | hx
  · left
    obtain ⟨t, ht, hx2⟩ := List.getElem_of_mem hx
    have hxt : (l.take (fidx l p))[t]? = some x := by rw [List.getElem?_eq_getElem ht, hx2]
    have htl : t < fidx l p := by rw [List.length_take] at ht; omega
    rw [List.getElem?_take, if_pos htl] at hxt
    have := fidx_below l p t x htl hxt
    unfold roomR; omega
  · exact roomF_free hn (rightB_drop (fidx l p) h) hd x hx
theorem space_no {l : List Ent} {p n a : Int} (h : spaceF l p n = (a, false)) : a = 0 := by
  unfold spaceF at h
  split at h
  · cases h; rfl
  · split at h
    · cases h
    · split at h
      · cases h
      · cases h; rfl
structure SpaceOK (l : List Ent) (n a : Int) : Prop where
  a0 : 0 ≤ a
  n1 : 1 ≤ n
  n2 : n ≤ 67108864
  am : a ≤ 67108864 - n
  free : ∀ x ∈ l, x.e ≤ a ∨ a + n ≤ x.s
theorem space_yes {l : List Ent} {p n a : Int} (h : spaceF l p n = (a, true)) (hr : rightB 0 l = true) : SpaceOK l n a := by
  unfold spaceF at h
  split at h
  · cases h
  · rename_i hn
    have h1 : 1 ≤ n := by omega
    have h2 : n ≤ 67108864 := by omega
    split at h
    · rename_i hc
      cases h
      exact ⟨roomF_nonneg (rightB_drop _ hr) (by omega), h1, h2, hc, roomR_free h1 hr⟩
    · split at h
      · rename_i hc
        cases h
        exact ⟨roomF_nonneg (rightB_drop _ hr) (Int.le_refl _), h1, h2, hc, roomR_free h1 hr⟩
      · cases h
/-- The entry that EntrySpaces puts there. -/
def spaceE (a n : Int) : Ent := ⟨a, a + n, 0, 0, false, 1, 7, 0, 0, false⟩
theorem bits17 : bits .and .i64 1 7 = 1 := by decide +kernel
theorem spaceE_good {l : List Ent} {a n : Int} (h : SpaceOK l n a) : goodB (spaceE a n) = true := by
  rw [goodB_iff]
  have := h.a0; have := h.n1; have := h.am
  refine ⟨⟨h.a0, ?_, ?_, Int.le_refl _, Int.le_refl _⟩, ⟨by simp [spaceE], by simp [spaceE], by simp [spaceE], by simp [spaceE], decide_eq_true bits17, by simp [spaceE], by simp [spaceE], by simp [spaceE], by simp [spaceE]⟩, fun _ => rfl, fun hf => absurd rfl hf⟩
  · show a < a + n; omega
  · show a + n ≤ _; omega
theorem spaceE_free {l : List Ent} {a n : Int} (h : SpaceOK l n a) (hr : rightB 0 l = true) : freeB l (spaceE a n) = true := by
  have hse := (goodE_of (spaceE_good h)).se
  rw [freeB_all hse hr, List.all_eq_true]
  intro x hx
  unfold apart
  rcases h.free x hx with h1 | h1
  · rw [decide_eq_true (show x.e ≤ (spaceE a n).s from h1)]; rfl
  · rw [decide_eq_true (show (spaceE a n).e ≤ x.s from h1)]; simp
theorem spaceE_ins {l : List Ent} {a n : Int} (h : SpaceOK l n a) (hr : rightB 0 l = true) : insOk l (spaceE a n) = true ∧ insL l (spaceE a n) = insAt l (spaceE a n) := by
  have : insOk l (spaceE a n) = true := by unfold insOk; rw [spaceE_good h, spaceE_free h hr]; rfl
  exact ⟨this, by unfold insL; rw [if_pos this]⟩
theorem ins_found {l : List Ent} {e : Ent} {p : Int} (h1 : e.s ≤ p) (h2 : p < e.e) : fok (insAt l e) p = true ∧ wholeR (insAt l e) p e.e = true := by
  have hat := (ins_find (show e.s < e.e by omega) l).2
  have hfl := fidx_le l e.s
  have hi : fidx (insAt l e) p = fidx l e.s := by
    refine fidx_of _ _ _ (by rw [insAt_len]; omega) (fun t x ht hx => ?_) (fun x hx => by rw [hat] at hx; cases hx; exact h2)
    unfold insAt at hx
    rw [List.getElem?_append_left (by rw [List.length_take]; omega), List.getElem?_take, if_pos ht] at hx
    have := fidx_below l e.s t x ht hx
    omega
  refine ⟨?_, ?_⟩
  · unfold fok; rw [hi, hat]; exact decide_eq_true h1
  · unfold wholeR
    rw [hi, ent_drop hat]
    show (if p < e.e then (if p < e.s then false else wholeW _ e.e e.e) else true) = true
    rw [if_pos h2, if_neg (by omega)]
    exact wholeW_done (Int.le_refl _)
end Go.Proofs.Ytopglbkcciigbaa
