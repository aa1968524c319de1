/- A region that draws its order comes to its post in every order if it does in one that the check allows. Conditions: the post admits no panic and nothing outgrown. -/
import Derived.Test.YtopfknikmhkaeaaCanonE
namespace Go.Proofs.Ytopfknikmhkaeaa
open Go.RowKit
set_option linter.unusedSimpArgs false
set_option linter.unusedVariables false
section
variable {P : Program} {ops : Array Oper} {K : Act → World → Prop} {anc : Array Nat} {S : World → Prop}
theorem pairs_apart (hp : pairsB anc ops = true) {i j : Nat} {oi oj : Oper} (hi : ops[i]? = some oi) (hj : ops[j]? = some oj) (hne : i ≠ j) (h1 : waits anc j i = false) (h2 : waits anc i j = false) :
    oi.apart ops oj = true := by
  unfold pairsB at hp
  rw [List.all_eq_true] at hp
  have a1 := hp i (List.mem_range.2 (Array.getElem?_eq_some_iff.1 hi).1)
  rw [List.all_eq_true] at a1
  have a2 := a1 j (List.mem_range.2 (Array.getElem?_eq_some_iff.1 hj).1)
  simp only [hi, hj, h1, h2, Bool.and_eq_true, Bool.or_eq_true, beq_iff_eq, Bool.false_eq_true, or_false, hne, false_or] at a2
  exact a2.1
theorem pairs_looks (hp : pairsB anc ops = true) {i j : Nat} {oi oj : Oper} (hi : ops[i]? = some oi) (hj : ops[j]? = some oj) {d : Nat} (hd : oj.dst = some d) (hl : d ∈ oi.looksAt ops) : waits anc i j = true := by
  unfold pairsB at hp
  rw [List.all_eq_true] at hp
  have a1 := hp i (List.mem_range.2 (Array.getElem?_eq_some_iff.1 hi).1)
  rw [List.all_eq_true] at a1
  have a2 := a1 j (List.mem_range.2 (Array.getElem?_eq_some_iff.1 hj).1)
  simp only [hi, hj, hd, Bool.and_eq_true, Bool.or_eq_true, Bool.not_eq_true', List.contains_eq_mem, decide_eq_false_iff_not] at a2
  exact a2.2.resolve_left (fun h => h hl)
/-- Nobody that has not come up writes what one that may come up looks at. -/
theorem looks_free (hb : ancB anc ops = true) (hp : pairsB anc ops = true) {listed : Array Bool} (hc : Closed ops listed) {i : Nat} {oi : Oper} (hi : ops[i]? = some oi) (hr : i ∈ Region.ready .any ops listed)
    {t : Nat} (ht : t ∈ oi.looksAt ops) (k : Nat) (o : Oper) (hk : ops[k]? = some o) (hun : listed.getD k true = false) : o.dst ≠ some t := by
  intro hd
  have h1 := pairs_looks hp hi hk hd ht
  rw [not_waits hb hc (Array.getElem?_eq_some_iff.1 hk).1 hun hr] at h1
  cases h1
theorem step_calm (hb : ancB anc ops = true) (hp : pairsB anc ops = true) {fuel : Nat} {listed : Array Bool} {a : Act} {w : World} (hc : Closed ops listed)
    (hK : ∀ a w, K a w → calmAll ops a = true) (h : wpAny P .any ops (canonPost K) fuel listed a w) {i : Nat} {oi : Oper} (hi : ops[i]? = some oi) (hr : i ∈ Region.ready .any ops listed)
    (hw : Region.wanted oi (yielded ops a.tmps) = true) : calm a.eval oi = true := by
  obtain ⟨a', w', h1, h2⟩ := wpAny_gives fuel listed a w h
  exact calm_of_all hi (hK _ _ h1) (fun t ht => h2 t (looks_free hb hp hc hi hr ht)) hw
/-- What holds of the world is carried through an operation that makes new blocks at most. -/
theorem wpOp_and {i : Nat} {o : Oper} {C : Act → World → Prop} {Q : Exit → Act → World → Prop} {a : Act} {w : World} (hi : ops[i]? = some o) (hS : S w)
    (hpres : Region.wanted o (yielded ops a.tmps) = true → ∀ n w', (execOp a.eval o).run P w = .ok n w' → (∃ v, n = .value v) ∧ S w')
    (hno : ∀ a w, ¬ Q .outgrown a w) (hnp : ∀ c a w, ¬ Q (.panic c) a w)
    (h : wpOp P ops Q i C a w) : wpOp P ops Q i (fun a' w' => S w' ∧ C a' w') a w := by
  unfold wpOp at h ⊢
  simp only [hi] at h ⊢
  split
  · rename_i hw
    simp only [hw, if_true] at h
    rcases h with h | ⟨_, _, _, h⟩
    · refine .inl ?_
      unfold Oper.wp at h ⊢
      cases hr : (execOp a.eval o).run P w with
      | ok n w' =>
        obtain ⟨⟨v, rfl⟩, hS'⟩ := hpres hw n w' hr
        rw [hr] at h
        exact ⟨hS', h⟩
      | halt x w' =>
        rw [hr] at h
        cases x <;> simp only [Oper.upon] at h ⊢
        exact h
    · exact (hno _ _ h).elim
  · rename_i hw
    simp only [hw] at h
    exact ⟨hS, h⟩
/-- An operation that may come up may be taken first. -/
theorem wpAny_firstS (hb : ancB anc ops = true) (hp : pairsB anc ops = true) (hs : Region.noSelect ops = true) (hK : ∀ a w, K a w → calmAll ops a = true) {i : Nat} {oi : Oper} {v : Value} (hi : ops[i]? = some oi) :
    ∀ (fuel : Nat) (listed : Array Bool) (a : Act) (w : World), Closed ops listed →
      (∀ j oj, ops[j]? = some oj → j ≠ i → listed.getD j true = false → waits anc j i = false → ∀ a w, S w → (Region.wanted oj (yielded ops a.tmps) = true → calm a.eval oj = true) →
        ∀ C, wpOp P ops (canonPost K) j C a w → wpOp P ops (canonPost K) j (fun a' w' => S w' ∧ C a' w') a w) →
      i ∈ Region.ready .any ops listed → YieldsIf P ops S oi v a → S w →
      wpAny P .any ops (canonPost K) fuel (listed.setIfInBounds i true) (a.put oi.dst v) w → wpAny P .any ops (canonPost K) (fuel + 1) listed a w := by
  intro fuel
  induction fuel with
  | zero =>
    intro listed a w hc _ hr hy hS H
    refine ⟨fun h => (by rw [h] at hr; cases hr), fun j hj => ?_⟩
    by_cases hji : j = i
    · subst hji; exact hy.wpOp hi hS H
    · have := ready_mono hj hji
      rw [H.1] at this
      cases this
  | succ fuel ih =>
    intro listed a w hc hcls hr hy hS H
    refine ⟨fun h => (by rw [h] at hr; cases hr), fun j hj => ?_⟩
    by_cases hji : j = i
    · subst hji; exact hy.wpOp hi hS H
    · have hjr := ready_mono hj hji
      have h1 := H.2 j hjr
      obtain ⟨hjun, oj, hoj, hall⟩ := mem_ready.1 hj
      have hun := (mem_ready.1 hr).1
      have hil := (Array.getElem?_eq_some_iff.1 hi).1
      have hjl := (Array.getElem?_eq_some_iff.1 hoj).1
      have hwji := not_waits hb hc hil hun hj
      have hwij := not_waits hb hc hjl hjun hr
      have hap := pairs_apart hp hi hoj (Ne.symm hji) hwji hwij
      have hcalm : Region.wanted oj (yielded ops a.tmps) = true → calm a.eval oj = true := fun hw => by
        obtain ⟨h3, _, _⟩ := Oper.apart_spec hap
        have e : ∀ t ∈ oj.looksAt ops, (a.put oi.dst v).tmps[t]? = a.tmps[t]? := fun t ht => put_tmps (fun he => h3 t he ht)
        rw [← looks_wanted e] at hw
        have h4 := step_calm hb hp (closed_set hc hr) hK H hoj hjr hw
        rw [← calm_congr (looks_eval e)]
        exact h4
      have h2 := wpOp_putIf (S := S) hoj hap (fun cs b => Region.noSelect_spec hs i oi cs b hi) (fun cs b => Region.noSelect_spec hs j oj cs b hoj) (fun c a w h => h) hy h1
      have h2' := hcls j oj hoj hji hjun hwji a w hS hcalm _ h2
      refine wpOp_mono (fun a' w' h3 => ih (listed.setIfInBounds j true) a' w' (closed_set hc hj) ?_ (ready_mono hr (Ne.symm hji)) h3.2.1 h3.1 ?_) h2'
      · intro k ok hk hki hku
        refine hcls k ok hk hki ?_
        by_cases hjk : j = k
        · subst hjk; exact hjun
        · rw [getD_set_ne true hjk] at hku; exact hku
      · rw [Array.setIfInBounds_comm _ _ hji]
        exact h3.2.2
theorem kinds_getD {i : Nat} {o : Oper} (hi : ops[i]? = some o) : (ops.map (kind P)).getD i 3 = kind P o := by
  simp [Array.getD_eq_getD_getElem?, Array.getElem?_map, hi]
theorem canon_sound (hb : ancB anc ops = true) (hp : pairsB anc ops = true) (hs : Region.noSelect ops = true) (hK : ∀ a w, K a w → calmAll ops a = true) :
    ∀ (order : List Nat) (listed : Array Bool) (a : Act) (w : World), Closed ops listed → orderB (ops.map (kind P)) anc ops order listed = true →
      wpOps P ops (canonPost K) order a w → wpAny P .any ops (canonPost K) order.length listed a w
  | [], listed, a, w, _, ho, h => ⟨by simpa [orderB] using ho, by simpa [wpOps] using h⟩
  | i :: rest, listed, a, w, hc, ho, h => by
    simp only [orderB, Bool.and_eq_true, Bool.or_eq_true, beq_iff_eq] at ho
    obtain ⟨⟨hr0, hcase⟩, hrest⟩ := ho
    have hr : i ∈ Region.ready .any ops listed := by simpa using hr0
    obtain ⟨hun, oi, hi, hall⟩ := mem_ready.1 hr
    have hil := (Array.getElem?_eq_some_iff.1 hi).1
    have IH : ∀ a' w', wpOps P ops (canonPost K) rest a' w' → wpAny P .any ops (canonPost K) rest.length (listed.setIfInBounds i true) a' w' :=
      fun a' w' h' => canon_sound hb hp hs hK rest _ a' w' (closed_set hc hr) hrest h'
    rw [wpOps_cons] at h
    have h' := wpOp_mono IH h
    rw [List.length_cons]
    by_cases hone : Region.ready .any ops listed = [i]
    · refine wpAny_all hone (by simp) fun j hj => ?_
      rw [List.mem_singleton] at hj
      subst hj
      exact h'
    · -- it reckons or it reads: it yields its value
      have hkind : kind P oi = 0 ∨ (kind P oi = 1 ∧ ∀ j, j < ops.size → j ≠ i → listed.getD j true = false → waits anc j i = false → (ops.map (kind P)).getD j 3 ≤ 2) := by
        rcases hcase with (h0 | h0) | h0
        · exact absurd h0 hone
        · exact .inl (by rw [kinds_getD hi] at h0; exact h0)
        · refine .inr ⟨by rw [kinds_getD hi] at h0; exact h0.1, fun j hj hne hu hw => ?_⟩
          have := (List.all_eq_true.1 h0.2) j (List.mem_range.2 hj)
          simp only [Bool.or_eq_true, beq_iff_eq, hne, hu, hw, Bool.false_eq_true, false_or, decide_eq_true_eq] at this
          exact this
      have hcalm : Region.wanted oi (yielded ops a.tmps) = true → calm a.eval oi = true := fun hw => by
        obtain ⟨a1, w1, h1, h2⟩ := wpOp_gives hi h'
        obtain ⟨a', w', h3, h4⟩ := wpAny_gives _ _ _ _ h1
        refine calm_of_all hi (hK _ _ h3) (fun t ht => ?_) hw
        rw [h4 t fun k ok hk hku => ?_, h2 t (looks_free hb hp hc hi hr ht i oi hi hun)]
        refine looks_free hb hp hc hi hr ht k ok hk ?_
        by_cases hki : i = k
        · subst hki; exact hun
        · rw [getD_set_ne true hki] at hku; exact hku
      -- the step at hand, opened
      unfold wpOp at h'
      simp only [hi] at h'
      rcases hkind with hk | ⟨hk, hoth⟩
      · have hv : ∃ v, YieldsIf P ops (fun _ => True) oi v a ∧ wpAny P .any ops (canonPost K) rest.length (listed.setIfInBounds i true) (a.put oi.dst v) w := by
          split at h'
          · rename_i hw
            rcases h' with h' | ⟨_, _, _, h'⟩
            · unfold Oper.wp at h'
              obtain ⟨hbl, hvo⟩ := exec_blank hk (hcalm hw)
              cases hrun : (execOp a.eval oi).run P w with
              | ok n w' =>
                obtain ⟨v, rfl⟩ := hvo _ _ _ hrun
                obtain ⟨rfl, hW⟩ := hbl _ _ _ hrun
                rw [hrun] at h'
                exact ⟨v, .inl ⟨hw, fun W _ => hW W⟩, h'⟩
              | halt x w' =>
                rw [hrun] at h'
                cases x <;> simp only [Oper.upon] at h'
                exact h'.elim
            · exact h'.elim
          · rename_i hw
            exact ⟨undef, .inr ⟨by simpa using hw, rfl⟩, h'⟩
        obtain ⟨v, hy, H⟩ := hv
        refine wpAny_firstS hb hp hs hK hi _ listed a w hc (fun j oj hj hne hu hwt a w _ _ C hC => wpOp_mono (fun _ _ h => ⟨trivial, h⟩) hC) hr hy trivial H
      · have hv : ∃ v, YieldsIf P ops (fun W => HExt w W) oi v a ∧ wpAny P .any ops (canonPost K) rest.length (listed.setIfInBounds i true) (a.put oi.dst v) w := by
          split at h'
          · rename_i hw
            rcases h' with h' | ⟨_, _, _, h'⟩
            · unfold Oper.wp at h'
              obtain ⟨hbl, hvo⟩ := exec_stable (P := P) (ρ := a.eval) hk
              cases hrun : (execOp a.eval oi).run P w with
              | ok n w' =>
                obtain ⟨v, rfl⟩ := hvo _ _ _ hrun
                obtain ⟨rfl, hW⟩ := hbl _ _ _ hrun
                rw [hrun] at h'
                exact ⟨v, .inl ⟨hw, fun W hE => hW W hE⟩, h'⟩
              | halt x w' =>
                rw [hrun] at h'
                cases x <;> simp only [Oper.upon] at h'
                exact h'.elim
            · exact h'.elim
          · rename_i hw
            exact ⟨undef, .inr ⟨by simpa using hw, rfl⟩, h'⟩
        obtain ⟨v, hy, H⟩ := hv
        refine wpAny_firstS (S := fun W => HExt w W) hb hp hs hK hi _ listed a w hc (fun j oj hj hne hu hwt a1 w1 hS1 hcalm1 C hC => ?_) hr hy (HExt.refl w) H
        have hjl := (Array.getElem?_eq_some_iff.1 hj).1
        have hk2 := hoth j hjl hne hu hwt
        rw [kinds_getD hj] at hk2
        refine wpOp_and (S := fun W => HExt w W) hj hS1 (fun hw n w' hrun => ?_) (fun _ _ h => h) (fun _ _ _ h => h) hC
        rcases (by omega : kind P oj = 0 ∨ kind P oj = 1 ∨ kind P oj = 2) with h0 | h0 | h0
        · obtain ⟨hbl, hvo⟩ := exec_blank h0 (hcalm1 hw)
          exact ⟨hvo _ _ _ hrun, by rw [(hbl _ _ _ hrun).1]; exact hS1⟩
        · obtain ⟨hbl, hvo⟩ := exec_stable (P := P) (ρ := a1.eval) h0
          exact ⟨hvo _ _ _ hrun, by rw [(hbl _ _ _ hrun).1]; exact hS1⟩
        · obtain ⟨hbl, hvo⟩ := exec_grows (P := P) (ρ := a1.eval) h0
          exact ⟨hvo _ _ _ hrun, hS1.trans (hbl _ _ _ hrun)⟩
theorem wpOps_list {Q : Exit → Act → World → Prop} {l : List Oper} : ∀ (order : List Nat) (a : Act) (w : World), (∀ i ∈ order, i < l.length) → wpList P l.toArray Q (order.map (l.getD · default)) a w → wpOps P l.toArray Q order a w
  | [], a, w, _, h => h
  | i :: rest, a, w, hl, h => by
    have IH := fun a w => wpOps_list (Q := Q) (l := l) rest a w (fun j hj => hl j (by simp [hj]))
    have hi : l.toArray[i]? = some (l.getD i default) := by
      have := hl i (by simp)
      simp [this]
    rw [wpOps_cons]
    unfold wpOp
    rw [hi]
    simp only [List.map_cons, wpList] at h
    dsimp only
    split
    · rename_i hw
      rw [if_pos hw] at h
      exact h.imp (Oper.wp_mono IH) id
    · rename_i hw
      rw [if_neg hw] at h
      exact IH _ _ h
/-- **THE LAW.** -/
theorem wp_region_canon {l : List Oper} {Q : Exit → Act → World → Prop} {a : Act} {w : World} {id : Nat} (order : List Nat) (hm : P.follows .mixedOrders = true) (hchk : canonB P l.toArray order = true)
    (h : ∀ K : Act → World → Prop, (∀ a w, calmAll l.toArray a = true → Q .normal a w → K a w) → wpList P l.toArray (canonPost K) (order.map (l.getD · default)) a w.drew) :
    (Code.region id l.toArray true).wp P Q a w := by
  simp only [canonB, Bool.and_eq_true, beq_iff_eq] at hchk
  obtain ⟨hin, ⟨⟨⟨h0, h1⟩, h2⟩, h3⟩, h4⟩ := hchk
  have hl := wpOps_list order a w.drew (fun i hi => by simpa using (List.all_eq_true.1 hin) i hi) (h (fun a w => calmAll l.toArray a = true ∧ Q .normal a w) (fun a w x y => ⟨x, y⟩))
  have hc : Closed l.toArray (Array.replicate l.toArray.size false) := fun k o ho hk => by
    have hlt := (Array.getElem?_eq_some_iff.1 ho).1
    exfalso
    rw [Array.getD_eq_getD_getElem?, Array.getElem?_replicate, if_pos hlt] at hk
    cases hk
  have hs := canon_sound h2 h3 h1 (fun a w h => h.1) order _ a w.drew hc h4 hl
  rw [h0] at hs
  refine Code.wp_mono (fun e a w hq => ?_) (wp_region_any hm hs)
  cases e <;> first | exact hq.2 | exact hq.elim
end
#print axioms wp_region_canon
end Go.Proofs.Ytopfknikmhkaeaa
