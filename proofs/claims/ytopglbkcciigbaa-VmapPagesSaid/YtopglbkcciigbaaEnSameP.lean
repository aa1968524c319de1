/- EntrySame: the plain law. No conditions. -/
import Derived.Test.YtopglbkcciigbaaEnCovP
import Derived.Test.YtopglbkcciigbaaEnRefsC
import Derived.Test.YtopglbkcciigbaaEnLeaf
namespace Go.Proofs.Ytopglbkcciigbaa
set_option linter.unusedSimpArgs false
set_option linter.unusedVariables false
/-! ### What a page's entry is, but for its ends -/
def LikeE (x y : Ent) (p : Int) : Prop :=
  x.f = y.f ∧ x.sh = y.sh ∧ x.pr = y.pr ∧ x.mx = y.mx ∧ x.inh = y.inh ∧ x.adv = y.adv ∧ x.wi = y.wi ∧ (0 < x.f → x.o + p - x.s = y.o + p - y.s)
theorem LikeE.symm {x y : Ent} {p : Int} (h : LikeE x y p) : LikeE y x p := by
  obtain ⟨h1, h2, h3, h4, h5, h6, h7, h8⟩ := h
  exact ⟨h1.symm, h2.symm, h3.symm, h4.symm, h5.symm, h6.symm, h7.symm, fun hf => (h8 (by omega)).symm⟩
theorem LikeE.refl (x : Ent) (p : Int) : LikeE x x p := ⟨rfl, rfl, rfl, rfl, rfl, rfl, rfl, fun _ => rfl⟩
theorem LikeE.trans {x y z : Ent} {p : Int} (h : LikeE x y p) (k : LikeE y z p) : LikeE x z p := by
  obtain ⟨h1, h2, h3, h4, h5, h6, h7, h8⟩ := h
  obtain ⟨k1, k2, k3, k4, k5, k6, k7, k8⟩ := k
  exact ⟨h1.trans k1, h2.trans k2, h3.trans k3, h4.trans k4, h5.trans k5, h6.trans k6, h7.trans k7, fun hf => (h8 hf).trans (k8 (by omega))⟩
/-- Each page of l has a like entry in m. -/
def Sub (l m : List Ent) : Prop := ∀ x ∈ l, ∀ p, has x p → ∃ y ∈ m, has y p ∧ LikeE x y p
theorem Sub.refl (l : List Ent) : Sub l l := fun x hx p hp => ⟨x, hx, hp, LikeE.refl x p⟩
theorem Sub.trans {a b c : List Ent} (h : Sub a b) (k : Sub b c) : Sub a c := fun x hx p hp => by
  obtain ⟨y, hy, h1, h2⟩ := h x hx p hp
  obtain ⟨z, hz, k1, k2⟩ := k y hy p h1
  exact ⟨z, hz, k1, h2.trans k2⟩
theorem clip1_sub (x : Ent) (q : Int) : Sub [x] (clip1 x q) ∧ Sub (clip1 x q) [x] := by
  by_cases h : x.s < q ∧ q < x.e
  · have e : clip1 x q = [cutA x q, cutB x q] := if_pos h
    have la : ∀ p, LikeE x (cutA x q) p := fun p => ⟨rfl, rfl, rfl, rfl, rfl, rfl, rfl, fun _ => rfl⟩
    have lb : ∀ p, LikeE x (cutB x q) p := fun p => ⟨rfl, rfl, rfl, rfl, rfl, rfl, rfl, fun hf => by
      rw [cutB_pos x q hf]
      show x.o + p - x.s = x.o + (q - x.s) + p - q
      omega⟩
    rw [e]
    refine ⟨fun y hy p hp => ?_, fun y hy p hp => ?_⟩
    · simp at hy; subst hy
      unfold has at hp
      rcases Int.lt_or_le p q with h1 | h1
      · exact ⟨cutA y q, by simp, ⟨hp.1, h1⟩, la p⟩
      · exact ⟨cutB y q, by simp, ⟨h1, hp.2⟩, lb p⟩
    · simp at hy
      rcases hy with rfl | rfl
      · exact ⟨x, by simp, ⟨hp.1, by have : p < q := hp.2; omega⟩, (la p).symm⟩
      · exact ⟨x, by simp, ⟨by have : q ≤ p := hp.1; omega, hp.2⟩, (lb p).symm⟩
  · have e : clip1 x q = [x] := if_neg h
    rw [e]; exact ⟨Sub.refl _, Sub.refl _⟩
theorem clip_sub (l : List Ent) (q : Int) : Sub l (clipL l q) ∧ Sub (clipL l q) l := by
  refine ⟨fun x hx p hp => ?_, fun y hy p hp => ?_⟩
  · obtain ⟨y, hy, h1, h2⟩ := (clip1_sub x q).1 x (by simp) p hp
    exact ⟨y, List.mem_flatMap.2 ⟨x, hx, hy⟩, h1, h2⟩
  · obtain ⟨x, hx, hy⟩ := List.mem_flatMap.1 hy
    obtain ⟨z, hz, h1, h2⟩ := (clip1_sub x q).2 y hy p hp
    simp at hz; subst hz
    exact ⟨z, hx, h1, h2⟩
theorem join_like {a x : Ent} (ho : onE a x = x) (p : Int) : LikeE a (joinE a x) p ∧ LikeE x (joinE a x) p := by
  have e1 : (onE a x).f = x.f := by rw [ho]
  have e2 : (onE a x).sh = x.sh := by rw [ho]
  have e3 : (onE a x).pr = x.pr := by rw [ho]
  have e4 : (onE a x).mx = x.mx := by rw [ho]
  have e5 : (onE a x).inh = x.inh := by rw [ho]
  have e6 : (onE a x).adv = x.adv := by rw [ho]
  have e7 : (onE a x).wi = x.wi := by rw [ho]
  have e8 : (onE a x).o = x.o := by rw [ho]
  have e9 := onE_ends ho
  refine ⟨⟨rfl, rfl, rfl, rfl, rfl, rfl, rfl, fun _ => rfl⟩, ⟨e1.symm, e2.symm, e3.symm, e4.symm, e5.symm, e6.symm, e7.symm, fun hf => ?_⟩⟩
  have e10 : (if 0 < a.f then a.o + (a.e - a.s) else a.o) = x.o := e8
  have e11 : a.f = x.f := e1
  rw [if_pos (by omega)] at e10
  show x.o + p - x.s = a.o + p - a.s
  omega
theorem mergeC_sub : ∀ (l : List Ent) (a : Ent), a.s < a.e → (∀ x ∈ l, x.s < x.e) → Sub (a :: l) (mergeC a l) ∧ Sub (mergeC a l) (a :: l)
  | [], a, _, _ => ⟨Sub.refl _, Sub.refl _⟩
  | x :: l, a, ha, hl => by
    have hx := hl x (List.mem_cons_self ..)
    unfold mergeC
    split
    · rename_i ho
      have he := onE_ends ho
      obtain ⟨i1, i2⟩ := mergeC_sub l (joinE a x) (by show a.s < x.e; omega) (fun y hy => hl y (List.mem_cons_of_mem _ hy))
      have s1 : Sub (a :: x :: l) (joinE a x :: l) := fun y hy p hp => by
        rcases List.mem_cons.1 hy with rfl | hy
        · exact ⟨joinE y x, List.mem_cons_self .., ⟨hp.1, by have := hp.2; show p < x.e; omega⟩, (join_like ho p).1⟩
        · rcases List.mem_cons.1 hy with rfl | hy
          · exact ⟨joinE a y, List.mem_cons_self .., ⟨by have := hp.1; show a.s ≤ p; omega, hp.2⟩, (join_like ho p).2⟩
          · exact ⟨y, List.mem_cons_of_mem _ hy, hp, LikeE.refl y p⟩
      have s2 : Sub (joinE a x :: l) (a :: x :: l) := fun y hy p hp => by
        rcases List.mem_cons.1 hy with rfl | hy
        · rcases Int.lt_or_le p a.e with h1 | h1
          · exact ⟨a, by simp, ⟨hp.1, h1⟩, (join_like ho p).1.symm⟩
          · exact ⟨x, by simp, ⟨by omega, hp.2⟩, (join_like ho p).2.symm⟩
        · exact ⟨y, by simp [hy], hp, LikeE.refl y p⟩
      exact ⟨s1.trans i1, i2.trans s2⟩
    · obtain ⟨i1, i2⟩ := mergeC_sub l x hx (fun y hy => hl y (List.mem_cons_of_mem _ hy))
      refine ⟨fun y hy p hp => ?_, fun y hy p hp => ?_⟩
      · rcases List.mem_cons.1 hy with rfl | hy
        · exact ⟨y, List.mem_cons_self .., hp, LikeE.refl y p⟩
        · obtain ⟨z, hz, h1, h2⟩ := i1 y hy p hp
          exact ⟨z, List.mem_cons_of_mem _ hz, h1, h2⟩
      · rcases List.mem_cons.1 hy with rfl | hy
        · exact ⟨y, List.mem_cons_self .., hp, LikeE.refl y p⟩
        · obtain ⟨z, hz, h1, h2⟩ := i2 y hy p hp
          exact ⟨z, List.mem_cons_of_mem _ hz, h1, h2⟩
theorem merge_sub {l : List Ent} (hr : rightB 0 l = true) : Sub l (mergeL l) ∧ Sub (mergeL l) l := by
  cases l with
  | nil => exact ⟨Sub.refl _, Sub.refl _⟩
  | cons a l => exact mergeC_sub l a (goodE_of (rightB_mem hr a (by simp)).1).se (fun x hx => (goodE_of (rightB_mem hr x (by simp [hx])).1).se)
theorem mergeC_wf : ∀ (l : List Ent) (a : Ent), WfE a → (∀ x ∈ l, WfE x) → ∀ y ∈ mergeC a l, WfE y
  | [], a, ha, _, y, hy => by simp [mergeC] at hy; subst hy; exact ha
  | x :: l, a, ha, hl, y, hy => by
    have hx := hl x (List.mem_cons_self ..)
    unfold mergeC at hy
    split at hy
    · exact mergeC_wf l (joinE a x) ⟨ha.s, hx.e, ha.f, ha.o, ha.pr, ha.mx, ha.inh, ha.adv⟩ (fun z hz => hl z (List.mem_cons_of_mem _ hz)) y hy
    · rcases List.mem_cons.1 hy with rfl | hy
      · exact ha
      · exact mergeC_wf l x hx (fun z hz => hl z (List.mem_cons_of_mem _ hz)) y hy
theorem merge_wf {l : List Ent} (h : ∀ x ∈ l, WfE x) : ∀ y ∈ mergeL l, WfE y := by
  cases l with
  | nil => intro y hy; cases hy
  | cons a l => exact mergeC_wf l a (h a (by simp)) (fun x hx => h x (by simp [hx]))
/-- The entry of a page is one alone. -/
theorem fidx_has {l : List Ent} {p : Int} {x : Ent} (hr : rightB 0 l = true) (hx : x ∈ l) (hp : has x p) : l[fidx l p]? = some x ∧ fok l p = true := by
  have hf := (fok_cov hr).2 ⟨x, hx, hp⟩
  obtain ⟨t, ht, hxt⟩ := List.getElem_of_mem hx
  have hxt' : l[t]? = some x := by rw [List.getElem?_eq_getElem ht, hxt]
  have hi : fidx l p = t := by
    refine fidx_of l p t (by omega) (fun q y hq hy => ?_) (fun y hy => by rw [hxt'] at hy; cases hy; exact hp.2)
    have h3 := rightB_drop q hr
    rw [ent_drop hy, rightB_cons] at h3
    have h4 : x ∈ l.drop (q + 1) := List.mem_of_getElem? (i := t - (q + 1)) (by rw [List.getElem?_drop, show q + 1 + (t - (q + 1)) = t by omega]; exact hxt')
    have := (rightB_mem h3.2.2 x h4).2
    have := hp.1
    omega
  exact ⟨by rw [hi]; exact hxt', hf⟩
theorem found_has {l : List Ent} {p : Int} (h : fok l p = true) : ∃ x, l[fidx l p]? = some x ∧ x ∈ l ∧ has x p := by
  unfold fok at h
  cases hx : l[fidx l p]? with
  | none => rw [hx] at h; cases h
  | some x =>
    rw [hx] at h
    exact ⟨x, rfl, List.mem_of_getElem? hx, by simpa using h, fidx_at l p x hx⟩
/-- What like looks at. -/
def Likes (l m : List Ent) (p : Int) : Prop :=
  (fok l p = false ∧ fok m p = false) ∨ ∃ x y, l[fidx l p]? = some x ∧ m[fidx m p]? = some y ∧ fok l p = true ∧ fok m p = true ∧ has x p ∧ has y p ∧ LikeE x y p
theorem likes_of {l m : List Ent} (hl : rightB 0 l = true) (hm : rightB 0 m = true) (h1 : Sub l m) (h2 : Sub m l) (p : Int) : Likes l m p := by
  cases hf : fok l p with
  | false =>
    left
    refine ⟨hf, ?_⟩
    cases hg : fok m p with
    | false => rfl
    | true =>
      obtain ⟨y, _, hy, hp⟩ := found_has hg
      obtain ⟨x, hx, hp2, _⟩ := h2 y hy p hp
      rw [(fidx_has hl hx hp2).2] at hf; cases hf
  | true =>
    right
    obtain ⟨x, hx0, hx, hp⟩ := found_has hf
    obtain ⟨y, hy, hp2, hk⟩ := h1 x hx p hp
    obtain ⟨k1, k2⟩ := fidx_has hm hy hp2
    exact ⟨x, y, hx0, k1, hf, k2, hp, hp2, hk⟩
/-! ### Clipped, and merged again -/
theorem onE_pos (a b : Ent) (h : 0 < a.f) : onE a b = ⟨a.e, b.e, a.f, a.o + (a.e - a.s), a.sh, a.pr, a.mx, a.inh, a.adv, a.wi⟩ := by unfold onE; rw [if_pos h]
theorem onE_neg (a b : Ent) (h : ¬ 0 < a.f) : onE a b = ⟨a.e, b.e, a.f, a.o, a.sh, a.pr, a.mx, a.inh, a.adv, a.wi⟩ := by unfold onE; rw [if_neg h]
theorem on_cut (x : Ent) (q : Int) : onE (cutA x q) (cutB x q) = cutB x q ∧ joinE (cutA x q) (cutB x q) = x := by
  refine ⟨?_, rfl⟩
  by_cases hf : 0 < x.f
  · rw [cutB_pos x q hf, onE_pos (cutA x q) _ hf]; rfl
  · rw [cutB_neg x q hf, onE_neg (cutA x q) _ hf]; rfl
theorem mergeC_clip1 (a x : Ent) (q : Int) (l : List Ent) : mergeC a (clip1 x q ++ l) = mergeC a (x :: l) := by
  unfold clip1
  split
  · simp only [List.cons_append, List.nil_append]
    have hk : onE a x = x ↔ onE a (cutA x q) = cutA x q := onE_alike rfl rfl rfl rfl rfl rfl rfl rfl rfl
    by_cases ho : onE a x = x
    · have h1 : mergeC a (cutA x q :: cutB x q :: l) = mergeC (joinE a (cutA x q)) (cutB x q :: l) := by
        show (if _ then _ else _) = _
        rw [if_pos (hk.1 ho)]
      have e1 : (onE a x).f = x.f := by rw [ho]
      have e2 : (onE a x).sh = x.sh := by rw [ho]
      have e3 : (onE a x).pr = x.pr := by rw [ho]
      have e4 : (onE a x).mx = x.mx := by rw [ho]
      have e5 : (onE a x).inh = x.inh := by rw [ho]
      have e6 : (onE a x).adv = x.adv := by rw [ho]
      have e7 : (onE a x).wi = x.wi := by rw [ho]
      have e8 : (onE a x).o = x.o := by rw [ho]
      have e9 := onE_ends ho
      have e10 : (if 0 < a.f then a.o + (a.e - a.s) else a.o) = x.o := e8
      have e11 : a.f = x.f := e1
      have h2 : onE (joinE a (cutA x q)) (cutB x q) = cutB x q := by
        have e2' : a.sh = x.sh := e2
        have e3' : a.pr = x.pr := e3
        have e4' : a.mx = x.mx := e4
        have e5' : a.inh = x.inh := e5
        have e6' : a.adv = x.adv := e6
        have e7' : a.wi = x.wi := e7
        by_cases hf : 0 < x.f
        · rw [cutB_pos x q hf]
          rw [if_pos (by omega)] at e10
          rw [onE_pos (joinE a (cutA x q)) _ (show 0 < a.f by omega)]
          simp only [joinE, cutA, Ent.mk.injEq, true_and, and_true]
          exact ⟨e11, by omega, e2', e3', e4', e5', e6', e7'⟩
        · rw [cutB_neg x q hf]
          rw [if_neg (by omega)] at e10
          rw [onE_neg (joinE a (cutA x q)) _ (show ¬ 0 < a.f by omega)]
          simp only [joinE, cutA, Ent.mk.injEq, true_and, and_true]
          exact ⟨e11, e10, e2', e3', e4', e5', e6', e7'⟩
      have h3 : mergeC (joinE a (cutA x q)) (cutB x q :: l) = mergeC (joinE (joinE a (cutA x q)) (cutB x q)) l := by
        show (if _ then _ else _) = _
        rw [if_pos h2]
      have h4 : mergeC a (x :: l) = mergeC (joinE a x) l := by
        show (if _ then _ else _) = _
        rw [if_pos ho]
      rw [h1, h3, h4]; rfl
    · have h1 : mergeC a (cutA x q :: cutB x q :: l) = a :: mergeC (cutA x q) (cutB x q :: l) := by
        show (if _ then _ else _) = _
        rw [if_neg (fun h => ho (hk.2 h))]
      have h3 : mergeC (cutA x q) (cutB x q :: l) = mergeC (joinE (cutA x q) (cutB x q)) l := by
        show (if _ then _ else _) = _
        rw [if_pos (on_cut x q).1]
      have h4 : mergeC a (x :: l) = a :: mergeC x l := by
        show (if _ then _ else _) = _
        rw [if_neg ho]
      rw [h1, h3, h4, (on_cut x q).2]
  · rfl
theorem mergeC_clip (q : Int) : ∀ (l : List Ent) (a : Ent), mergeC a (clipL l q) = mergeC a l
  | [], a => rfl
  | x :: l, a => by
    have e : clipL (x :: l) q = clip1 x q ++ clipL l q := rfl
    rw [e, mergeC_clip1]
    show (if onE a x = x then mergeC (joinE a x) (clipL l q) else a :: mergeC x (clipL l q)) = (if onE a x = x then mergeC (joinE a x) l else a :: mergeC x l)
    rw [mergeC_clip q l, mergeC_clip q l]
theorem merge_clip (q : Int) (l : List Ent) : mergeL (clipL l q) = mergeL l := by
  cases l with
  | nil => rfl
  | cons x l =>
    have e : clipL (x :: l) q = clip1 x q ++ clipL l q := rfl
    rw [e]
    unfold clip1
    split
    · show mergeC (cutA x q) (cutB x q :: clipL l q) = mergeC x l
      have h3 : mergeC (cutA x q) (cutB x q :: clipL l q) = mergeC (joinE (cutA x q) (cutB x q)) (clipL l q) := by
        show (if _ then _ else _) = _
        rw [if_pos (on_cut x q).1]
      rw [h3, (on_cut x q).2, mergeC_clip]
    · exact mergeC_clip q l x
/-! ### Cut out, and put in again -/
theorem rightB_sub {l m : List Ent} (h : List.Sublist l m) : ∀ {last : Int}, rightB last m = true → rightB last l = true := by
  induction h with
  | slnil => exact fun h => h
  | cons x hs ih =>
    intro last h
    rw [rightB_cons] at h
    exact rightB_mono (ih h.2.2) (by have := (goodE_of h.1).se; omega)
  | cons_cons x hs ih =>
    intro last h
    rw [rightB_cons] at h ⊢
    exact ⟨h.1, h.2.1, ih h.2.2⟩
theorem three (lo hi : Int) : ∀ {c : List Ent} {last : Int}, rightB last c = true → ∃ P G Q, c = P ++ G ++ Q ∧ c.filter (inB lo hi) = G ∧ c.filter (fun x => !inB lo hi x) = P ++ Q ∧ ∀ y ∈ P, y.s < lo
  | [], _, _ => ⟨[], [], [], rfl, rfl, rfl, by simp⟩
  | x :: c, last, h => by
    rw [rightB_cons] at h
    by_cases h1 : x.s < lo
    · obtain ⟨P, G, Q, e1, e2, e3, e4⟩ := three lo hi h.2.2
      have hin : inB lo hi x = false := by unfold inB; rw [decide_eq_false (by omega)]; rfl
      refine ⟨x :: P, G, Q, by rw [e1]; rfl, by rw [List.filter_cons, hin, if_neg (by simp)]; exact e2, ?_, fun y hy => ?_⟩
      · rw [List.filter_cons, hin, if_pos (by rfl), e3]; rfl
      · rcases List.mem_cons.1 hy with rfl | hy
        · exact h1
        · exact e4 y hy
    · by_cases h2 : x.e ≤ hi
      · have hin : inB lo hi x = true := by unfold inB; rw [decide_eq_true (show lo ≤ x.s by omega), decide_eq_true h2]; rfl
        obtain ⟨P, G, Q, e1, e2, e3, e4⟩ := three lo hi h.2.2
        have hP : P = [] := by
          cases P with
          | nil => rfl
          | cons y P =>
            have hyc : y ∈ c := by rw [e1]; simp
            have := e4 y (List.mem_cons_self ..)
            have := (rightB_mem h.2.2 y hyc).2
            have := (goodE_of h.1).se
            omega
        subst hP
        refine ⟨[], x :: G, Q, by rw [e1]; rfl, by rw [List.filter_cons, hin, if_pos rfl, e2], ?_, by simp⟩
        rw [List.filter_cons, hin, if_neg (by simp)]; exact e3
      · have hall : ∀ y ∈ c, inB lo hi y = false := fun y hy => by
          have h3 := rightB_mem h.2.2 y hy
          have h4 := (goodE_of h3.1).se
          unfold inB; rw [decide_eq_false (show ¬ y.e ≤ hi by omega)]; simp
        have hin : inB lo hi x = false := by unfold inB; rw [decide_eq_false h2]; simp
        refine ⟨[], [], x :: c, rfl, ?_, ?_, by simp⟩
        · rw [List.filter_cons, hin, if_neg (by simp)]
          exact List.filter_eq_nil_iff.2 (fun y hy => by rw [hall y hy]; simp)
        · rw [List.filter_cons, hin, if_pos (by rfl)]
          rw [List.filter_eq_self.2 (fun y hy => by rw [hall y hy]; rfl)]; rfl
/-- What stands in a right list may be put in again. -/
theorem put_back {U V : List Ent} {g : Ent} (h : rightB 0 (U ++ g :: V) = true) : insOk (U ++ V) g = true ∧ insAt (U ++ V) g = U ++ g :: V := by
  have hg : goodB g = true := (rightB_mem h g (by simp)).1
  have hgs := (goodE_of hg).se
  have hU : ∀ x ∈ U, x.e ≤ g.s := fun x hx => by
    obtain ⟨t, ht, hxt⟩ := List.getElem_of_mem hx
    have hxt' : (U ++ g :: V)[t]? = some x := by rw [List.getElem?_append_left ht, List.getElem?_eq_getElem ht, hxt]
    have h3 := rightB_drop t h
    rw [ent_drop hxt', rightB_cons] at h3
    have h4 : g ∈ (U ++ g :: V).drop (t + 1) := by rw [List.drop_append_of_le_length (by omega)]; simp
    exact (rightB_mem h3.2.2 g h4).2
  have hV : ∀ x ∈ V, g.e ≤ x.s := fun x hx => by
    have h3 := rightB_drop U.length h
    rw [List.drop_left, rightB_cons] at h3
    exact (rightB_mem h3.2.2 x hx).2
  have hr : rightB 0 (U ++ V) = true := rightB_sub (List.Sublist.append (List.Sublist.refl U) (List.sublist_cons_self g V)) h
  have hi : fidx (U ++ V) g.s = U.length := by
    refine fidx_of _ _ _ (by simp) (fun t x ht hx => ?_) (fun x hx => ?_)
    · rw [List.getElem?_append_left ht] at hx
      exact hU x (List.mem_of_getElem? hx)
    · rw [List.getElem?_append_right (Nat.le_refl _)] at hx
      have hm := List.mem_of_getElem? hx
      have h5 := hV x hm
      have h6 := (goodE_of (rightB_mem hr x (by simp [hm])).1).se
      omega
  refine ⟨?_, ?_⟩
  · unfold insOk
    rw [hg, freeB_all hgs hr, List.all_eq_true.2 (fun x hx => ?_)]; rfl
    unfold apart
    rcases List.mem_append.1 hx with hx | hx
    · rw [decide_eq_true (hU x hx)]; rfl
    · rw [decide_eq_true (hV x hx)]; simp
  · unfold insAt
    rw [hi, List.take_left, List.drop_left]
end Go.Proofs.Ytopglbkcciigbaa
