/- Which pages a right list has: Find, Whole, Clip, Cut. No conditions. -/
import Derived.Test.YtopglbkcciigbaaEnCut
import Derived.Test.YtopglbkcciigbaaEnClipsP
import Derived.Test.YtopglbkcciigbaaEnFindR
import Derived.Test.YtopglbkcciigbaaEnSpacesP
namespace Go.Proofs.Ytopglbkcciigbaa
set_option linter.unusedSimpArgs false
set_option linter.unusedVariables false
def has (x : Ent) (p : Int) : Prop := x.s ≤ p ∧ p < x.e
def cov (l : List Ent) (p : Int) : Prop := ∃ x ∈ l, has x p
theorem cov_cons {x : Ent} {l : List Ent} {p : Int} : cov (x :: l) p ↔ has x p ∨ cov l p := by
  unfold cov; simp
theorem fok_cov {l : List Ent} {p : Int} (hr : rightB 0 l = true) : fok l p = true ↔ cov l p := by
  constructor
  · intro h
    unfold fok at h
    cases hx : l[fidx l p]? with
    | none => rw [hx] at h; cases h
    | some x =>
      rw [hx] at h
      exact ⟨x, List.mem_of_getElem? hx, by simpa using h, fidx_at l p x hx⟩
  · rintro ⟨x, hx, h1, h2⟩
    obtain ⟨t, ht, hxt⟩ := List.getElem_of_mem hx
    have hxt' : l[t]? = some x := by rw [List.getElem?_eq_getElem ht, hxt]
    have hi : fidx l p = t := by
      refine fidx_of l p t (by omega) (fun q y hq hy => ?_) (fun y hy => by rw [hxt'] at hy; cases hy; exact h2)
      -- y stands ahead of x
      have h3 := rightB_drop q hr
      rw [ent_drop hy, rightB_cons] at h3
      have h4 : x ∈ l.drop (q + 1) := List.mem_of_getElem? (i := t - (q + 1)) (by rw [List.getElem?_drop, show q + 1 + (t - (q + 1)) = t by omega]; exact hxt')
      have := (rightB_mem h3.2.2 x h4).2
      omega
    unfold fok
    rw [hi, hxt']
    exact decide_eq_true h1
theorem cov_clip1 {x : Ent} {q p : Int} : cov (clip1 x q) p ↔ has x p := by
  unfold clip1
  split
  · rename_i h
    rw [cov_cons, cov_cons]
    unfold has cov
    simp only [cutA, cutB, List.not_mem_nil, false_and, exists_false, or_false]
    omega
  · rw [cov_cons]
    unfold cov
    simp
theorem cov_clip {l : List Ent} {q p : Int} : cov (clipL l q) p ↔ cov l p := by
  induction l with
  | nil => exact Iff.rfl
  | cons x l ih =>
    have e : clipL (x :: l) q = clip1 x q ++ clipL l q := rfl
    have ha : ∀ a b : List Ent, cov (a ++ b) p ↔ cov a p ∨ cov b p := fun a b => by
      unfold cov
      constructor
      · rintro ⟨y, hy, hp⟩
        rcases List.mem_append.1 hy with h | h
        · exact .inl ⟨y, h, hp⟩
        · exact .inr ⟨y, h, hp⟩
      · rintro (⟨y, hy, hp⟩ | ⟨y, hy, hp⟩)
        · exact ⟨y, List.mem_append_left _ hy, hp⟩
        · exact ⟨y, List.mem_append_right _ hy, hp⟩
    rw [e, ha, cov_clip1, ih, cov_cons]
theorem span_lo {l : List Ent} {lo hi : Int} {y : Ent} (h : y ∈ clipL (clipL l lo) hi) : ¬ (y.s < lo ∧ lo < y.e) ∧ ¬ (y.s < hi ∧ hi < y.e) := by
  refine ⟨?_, clipL_none h⟩
  rw [clipL_comm] at h
  exact clipL_none h
theorem cov_left {l : List Ent} {lo hi p : Int} (h1 : lo ≤ p) (h2 : p < hi) : ¬ cov (leftL l lo hi) p := by
  rintro ⟨x, hx, hp⟩
  unfold leftL at hx
  obtain ⟨hx1, hx2⟩ := List.mem_filter.1 hx
  obtain ⟨h3, h4⟩ := span_lo hx1
  unfold has at hp
  have : inB lo hi x = true := by
    unfold inB
    rw [decide_eq_true (show lo ≤ x.s by omega), decide_eq_true (show x.e ≤ hi by omega)]; rfl
  rw [this] at hx2; cases hx2
theorem cov_gone {l : List Ent} {lo hi p : Int} (h1 : lo ≤ p) (h2 : p < hi) : cov (goneL l lo hi) p ↔ cov l p := by
  rw [← cov_clip (l := l) (q := lo), ← cov_clip (l := clipL l lo) (q := hi)]
  constructor
  · rintro ⟨x, hx, hp⟩
    exact ⟨x, (List.mem_filter.1 hx).1, hp⟩
  · rintro ⟨x, hx, hp⟩
    obtain ⟨h3, h4⟩ := span_lo hx
    unfold has at hp
    refine ⟨x, List.mem_filter.2 ⟨hx, ?_⟩, hp⟩
    unfold inB
    rw [decide_eq_true (show lo ≤ x.s by omega), decide_eq_true (show x.e ≤ hi by omega)]; rfl
theorem gone_in {l : List Ent} {lo hi : Int} {x : Ent} (h : x ∈ goneL l lo hi) : lo ≤ x.s ∧ x.e ≤ hi := by
  have := (List.mem_filter.1 h).2
  unfold inB at this
  simpa using this
/-- How many pages a list has. -/
def sumL : List Ent → Int
  | [] => 0
  | x :: l => (x.e - x.s) + sumL l
theorem cov_low {l : List Ent} {a p : Int} (h : rightB a l = true) (hp : p < a) : ¬ cov l p := by
  rintro ⟨x, hx, h1, h2⟩
  have := (rightB_mem h x hx).2
  omega
theorem sum_cov {hi : Int} : ∀ {l : List Ent} {lo : Int}, rightB lo l = true → lo ≤ hi → (∀ x ∈ l, x.e ≤ hi) → sumL l ≤ hi - lo ∧ 0 ≤ sumL l ∧ (sumL l = hi - lo ↔ ∀ p, lo ≤ p → p < hi → cov l p)
  | [], lo, _, hlh, _ => by
    refine ⟨by simp [sumL]; omega, Int.le_refl _, ?_⟩
    constructor
    · intro h p h1 h2; simp [sumL] at h; omega
    · intro h
      simp only [sumL]
      rcases Int.lt_or_le lo hi with h1 | h1
      · obtain ⟨x, hx, _⟩ := h lo (Int.le_refl _) h1; cases hx
      · omega
  | x :: l, lo, h, hlh, hx => by
    rw [rightB_cons] at h
    have hxe := hx x (List.mem_cons_self ..)
    have hse := (goodE_of h.1).se
    obtain ⟨i1, i2, i3⟩ := sum_cov h.2.2 hxe (fun y hy => hx y (List.mem_cons_of_mem _ hy))
    refine ⟨by simp only [sumL]; omega, by simp only [sumL]; omega, ?_⟩
    constructor
    · intro hs p h1 h2
      simp only [sumL] at hs
      have h3 : x.s = lo := by omega
      have h4 : sumL l = hi - x.e := by omega
      rw [cov_cons]
      rcases Int.lt_or_le p x.e with h5 | h5
      · left; unfold has; omega
      · right; exact i3.1 h4 p h5 h2
    · intro hc
      have h3 : x.s = lo := by
        have := hc lo (Int.le_refl _) (by omega)
        rw [cov_cons] at this
        rcases this with h4 | h4
        · unfold has at h4; omega
        · exact absurd h4 (cov_low h.2.2 (by omega))
      have h4 : sumL l = hi - x.e := i3.2 (fun p h5 h6 => by
        have := hc p (by omega) h6
        rw [cov_cons] at this
        rcases this with h7 | h7
        · unfold has at h7; omega
        · exact h7)
      simp only [sumL]; omega
theorem sum_app : ∀ (a b : List Ent), sumL (a ++ b) = sumL a + sumL b
  | [], b => by simp [sumL]
  | x :: a, b => by simp only [List.cons_append, sumL, sum_app a b]; omega
theorem sum_pre {lo hi : Int} {l : List Ent} (h : rightB lo l = true) (hlh : lo ≤ hi) (hx : ∀ x ∈ l, x.e ≤ hi) (i : Nat) : 0 ≤ sumL (l.take i) ∧ sumL (l.take i) ≤ hi - lo := by
  have h1 : rightB lo (l.take i) = true := rightB_app (q := l.drop i) (by rw [List.take_append_drop]; exact h)
  obtain ⟨a, b, _⟩ := sum_cov h1 hlh (fun x hm => hx x (List.mem_of_mem_take hm))
  exact ⟨b, a⟩
theorem wholeW_cov {hi : Int} : ∀ {l : List Ent} {a : Int}, rightB 0 l = true → (∀ x ∈ l, a < x.e) → (wholeW l a hi = true ↔ ∀ p, a ≤ p → p < hi → cov l p)
  | [], a, _, _ => by
    constructor
    · intro h p h1 h2
      have : hi ≤ a := by simpa [wholeW] using h
      omega
    · intro h
      show decide (hi ≤ a) = true
      refine decide_eq_true ?_
      rcases Int.lt_or_le a hi with h1 | h1
      · obtain ⟨x, hx, _⟩ := h a (Int.le_refl _) h1; cases hx
      · exact h1
  | x :: l, a, h, hx => by
    rw [rightB_cons] at h
    have hse := (goodE_of h.1).se
    have hs0 := (goodE_of h.1).s0
    have hr : rightB 0 l = true := rightB_mono h.2.2 (by omega)
    have hxa := hx x (List.mem_cons_self ..)
    have ih := wholeW_cov (hi := hi) (a := x.e) hr (fun y hy => by
      have := rightB_mem h.2.2 y hy
      have h2 := (goodE_of this.1).se
      omega)
    show (if a < hi then (if a < x.s then false else wholeW l x.e hi) else true) = true ↔ _
    by_cases h1 : a < hi
    · rw [if_pos h1]
      by_cases h2 : a < x.s
      · rw [if_pos h2]
        constructor
        · intro h; cases h
        · intro hc
          have := hc a (Int.le_refl _) h1
          rw [cov_cons] at this
          rcases this with h3 | h3
          · unfold has at h3; omega
          · exact absurd h3 (cov_low h.2.2 (by omega))
      · rw [if_neg h2, ih]
        constructor
        · intro hc p h3 h4
          rw [cov_cons]
          rcases Int.lt_or_le p x.e with h5 | h5
          · left; unfold has; omega
          · right; exact hc p h5 h4
        · intro hc p h3 h4
          have := hc p (by omega) h4
          rw [cov_cons] at this
          rcases this with h5 | h5
          · unfold has at h5; omega
          · exact h5
    · rw [if_neg h1]
      constructor
      · intro _ p h3 h4; omega
      · intro _; rfl
theorem whole_cov {l : List Ent} {lo hi : Int} (hr : rightB 0 l = true) : wholeR l lo hi = true ↔ ∀ p, lo ≤ p → p < hi → cov l p := by
  unfold wholeR
  rw [wholeW_cov (rightB_drop _ hr) (drop_high hr)]
  have key : ∀ p, lo ≤ p → (cov (l.drop (fidx l lo)) p ↔ cov l p) := fun p hp => by
    constructor
    · rintro ⟨x, hx, h⟩; exact ⟨x, List.mem_of_mem_drop hx, h⟩
    · rintro ⟨x, hx, h⟩
      rw [← List.take_append_drop (fidx l lo) l] at hx
      rcases List.mem_append.1 hx with hx | hx
      · obtain ⟨t, ht, hx2⟩ := List.getElem_of_mem hx
        have hxt : (l.take (fidx l lo))[t]? = some x := by rw [List.getElem?_eq_getElem ht, hx2]
        have htl : t < fidx l lo := by rw [List.length_take] at ht; omega
        rw [List.getElem?_take, if_pos htl] at hxt
        have := fidx_below l lo t x htl hxt
        unfold has at h; omega
      · exact ⟨x, hx, h⟩
  constructor
  · intro h p h1 h2; exact (key p h1).1 (h p h1 h2)
  · intro h p h1 h2; exact (key p h1).2 (h p h1 h2)
/-- Are the first i pages of a range all found? -/
def allB (l : List Ent) (lo : Int) (i : Nat) : Bool := (List.range i).all (fun (t : Nat) => fok l (lo + (t : Int)))
theorem allB_succ (l : List Ent) (lo : Int) (i : Nat) : allB l lo (i + 1) = (allB l lo i && fok l (lo + (i : Int))) := by
  unfold allB; rw [List.range_succ, List.all_append]; simp
theorem allB_cov {l : List Ent} {lo : Int} {k : Nat} (hr : rightB 0 l = true) : allB l lo k = true ↔ ∀ p, lo ≤ p → p < lo + (k : Int) → cov l p := by
  unfold allB
  rw [List.all_eq_true]
  constructor
  · intro h p h1 h2
    have := h (p - lo).toNat (List.mem_range.2 (by omega))
    rw [fok_cov hr] at this
    have e : lo + ((p - lo).toNat : Int) = p := by omega
    rw [e] at this
    exact this
  · intro h t ht
    have := List.mem_range.1 ht
    rw [fok_cov hr]
    exact h _ (by omega) (by omega)
theorem wholes_law {l : List Ent} {lo : Int} {k : Nat} (hr : rightB 0 l = true) (h0 : 0 ≤ lo) :
    wholeR l lo (lo + (k : Int)) = allB l lo k ∧ decide (sumL (goneL l lo (lo + (k : Int))) = (k : Int)) = allB l lo k ∧ ∀ p, lo ≤ p → p < lo + (k : Int) → fok (leftL l lo (lo + (k : Int))) p = false := by
  have hb := allB_cov (lo := lo) (k := k) hr
  have hg := right_gone lo (lo + (k : Int)) hr
  refine ⟨?_, ?_, fun p h1 h2 => ?_⟩
  · rw [Bool.eq_iff_iff, whole_cov hr, hb]
  · rw [Bool.eq_iff_iff, hb, decide_eq_true_eq]
    have hgl : rightB lo (goneL l lo (lo + (k : Int))) = true := by
      cases hc : goneL l lo (lo + (k : Int)) with
      | nil => rfl
      | cons x r =>
        have h1 := gone_in (l := l) (lo := lo) (hi := lo + (k : Int)) (x := x) (by rw [hc]; exact List.mem_cons_self ..)
        rw [hc, rightB_cons] at hg
        rw [rightB_cons]
        exact ⟨hg.1, h1.1, hg.2.2⟩
    have h2 := (sum_cov (hi := lo + (k : Int)) hgl (by omega) (fun x hx => (gone_in hx).2)).2.2
    have e : (k : Int) = lo + (k : Int) - lo := by omega
    constructor
    · intro hs p h3 h4
      exact (cov_gone h3 h4).1 (h2.1 (by omega) p h3 h4)
    · intro hc
      have := h2.2 (fun p h3 h4 => (cov_gone h3 h4).2 (hc p h3 h4))
      omega
  · cases hf : fok (leftL l lo (lo + (k : Int))) p with
    | false => rfl
    | true => exact absurd ((fok_cov (right_left _ _ hr)).1 hf) (cov_left h1 h2)
theorem gone_sum {l : List Ent} {lo : Int} {k : Nat} (hr : rightB 0 l = true) (h0 : 0 ≤ lo) (i : Nat) : 0 ≤ sumL ((goneL l lo (lo + (k : Int))).take i) ∧ sumL ((goneL l lo (lo + (k : Int))).take i) ≤ k := by
  have hg := right_gone lo (lo + (k : Int)) hr
  have hgl : rightB lo (goneL l lo (lo + (k : Int))) = true := by
    cases hc : goneL l lo (lo + (k : Int)) with
    | nil => rfl
    | cons x r =>
      have h1 := gone_in (l := l) (lo := lo) (hi := lo + (k : Int)) (x := x) (by rw [hc]; exact List.mem_cons_self ..)
      rw [hc, rightB_cons] at hg
      rw [rightB_cons]
      exact ⟨hg.1, h1.1, hg.2.2⟩
  have := sum_pre hgl (show lo ≤ lo + (k : Int) by omega) (fun x hx => (gone_in hx).2) i
  omega
theorem sum_take {l : List Ent} {i : Nat} {x : Ent} (hx : l[i]? = some x) : sumL (l.take (i + 1)) = sumL (l.take i) + (x.e - x.s) := by
  rw [List.take_add_one, hx, sum_app]; simp [sumL]
end Go.Proofs.Ytopglbkcciigbaa
