/- The pool of objects and the document's pool hold the same: plain laws. No conditions but those told. -/
import Derived.Test.YtopfknikmhkaeaaOrD
import Derived.Test.YtopfknikmhkaeaaObPagesP
import Derived.Test.YtopfknikmhkaeaaObFilesP
namespace Go.Proofs.Ytopfknikmhkaeaa
open Go.RowKit
set_option linter.unusedSimpArgs false
set_option linter.unusedVariables false
theorem rise_ext {α : Type} (f : α → Int) : ∀ (a b : List α), a.Pairwise (fun x y => f x < f y) → b.Pairwise (fun x y => f x < f y) → (∀ y, y ∈ a ↔ y ∈ b) → a = b
  | [], [], _, _, _ => rfl
  | [], y :: b, _, _, h => absurd ((h y).2 (by simp)) (by simp)
  | x :: a, [], _, _, h => absurd ((h x).1 (by simp)) (by simp)
  | x :: a, y :: b, ha, hb, h => by
    rw [List.pairwise_cons] at ha hb
    have hxy : x = y := by
      rcases List.mem_cons.1 ((h x).1 (by simp)) with h1 | h1
      · exact h1
      · rcases List.mem_cons.1 ((h y).2 (by simp)) with h2 | h2
        · exact h2.symm
        · have := hb.1 x h1; have := ha.1 y h2; omega
    subst hxy
    congr 1
    refine rise_ext f a b ha.2 hb.2 fun z => ⟨fun hz => ?_, fun hz => ?_⟩
    · rcases List.mem_cons.1 ((h z).1 (by simp [hz])) with h1 | h1
      · have := ha.1 z hz; rw [h1] at this; omega
      · exact h1
    · rcases List.mem_cons.1 ((h z).2 (by simp [hz])) with h1 | h1
      · have := hb.1 z hz; rw [h1] at this; omega
      · exact h1
abbrev Rise (q : List (Int × Pg)) : Prop := q.Pairwise (fun a b => a.1 < b.1)
theorem rise_uniq {q : List (Int × Pg)} (h : Rise q) {k : Int} {u v : Pg} (h1 : (k, u) ∈ q) (h2 : (k, v) ∈ q) : u = v := by
  induction q with
  | nil => cases h1
  | cons x q ih =>
    unfold Rise at h
    rw [List.pairwise_cons] at h
    rcases List.mem_cons.1 h1 with rfl | h1 <;> rcases List.mem_cons.1 h2 with h3 | h2
    · cases h3; rfl
    · have := h.1 _ h2; simp at this
    · have := h.1 _ h1; rw [← h3] at this; simp at this
    · exact ih h.2 h1 h2
/-! ### Pages put and dropped -/
theorem ins_true (ix : Int) (x : Pg) : ∀ (q acc : List (Int × Pg)), q.foldl (insStep ix x) (acc, true) = (acc ++ q.filter (fun y => !decide (y.1 = ix)), true)
  | [], acc => by simp
  | y :: q, acc => by
    have h1 : insStep ix x (acc, true) y = (if y.1 ≠ ix then acc ++ [y] else acc, true) := by unfold insStep; simp
    rw [List.foldl_cons, h1, ins_true ix x q]
    by_cases hy : y.1 = ix <;> simp [hy]
theorem ins_false (ix : Int) (x : Pg) : ∀ (q acc : List (Int × Pg)), Rise q → q.foldl (insStep ix x) (acc, false) =
    if q.any (fun y => decide (ix ≤ y.1)) then (acc ++ q.filter (fun y => decide (y.1 < ix)) ++ [(ix, x)] ++ q.filter (fun y => decide (ix < y.1)), true) else (acc ++ q.filter (fun y => decide (y.1 < ix)), false)
  | [], acc, _ => by simp
  | y :: q, acc, h => by
    unfold Rise at h
    rw [List.pairwise_cons] at h
    rw [List.foldl_cons]
    by_cases hy : ix ≤ y.1
    · have h1 : insStep ix x (acc, false) y = (if y.1 ≠ ix then acc ++ [(ix, x)] ++ [y] else acc ++ [(ix, x)], true) := by unfold insStep; simp [hy]
      rw [h1, ins_true]
      have h2 : (y :: q).any (fun y => decide (ix ≤ y.1)) = true := by simp [hy]
      rw [if_pos h2]
      have h3 : (y :: q).filter (fun y => decide (y.1 < ix)) = [] := by
        rw [List.filter_eq_nil_iff]
        intro z hz
        rcases List.mem_cons.1 hz with rfl | hz
        · simp; omega
        · have := h.1 z hz; simp; omega
      have h4 : q.filter (fun y => !decide (y.1 = ix)) = q.filter (fun y => decide (ix < y.1)) := by
        refine List.filter_congr fun z hz => ?_
        have := h.1 z hz
        have h5 : z.1 ≠ ix := by omega
        have h6 : ix < z.1 := by omega
        simp [h5, h6]
      rw [h3, h4]
      by_cases he : y.1 = ix
      · simp [he]
      · have h6 : ix < y.1 := by omega
        simp [he, h6]
    · have h1 : insStep ix x (acc, false) y = (acc ++ [y], false) := by
        have h2 : y.1 ≠ ix := by omega
        unfold insStep; simp [hy, h2]
      rw [h1, ins_false ix x q _ h.2]
      have h2 : (y :: q).any (fun y => decide (ix ≤ y.1)) = q.any (fun y => decide (ix ≤ y.1)) := by simp [hy]
      rw [h2]
      have h3 : y.1 < ix := by omega
      have h4 : ¬ ix < y.1 := by omega
      simp [h3, h4]
theorem rputL_eq {q : List (Int × Pg)} (h : Rise q) (ix : Int) (x : Pg) : rputL q ix x = q.filter (fun y => decide (y.1 < ix)) ++ [(ix, x)] ++ q.filter (fun y => decide (ix < y.1)) := by
  unfold rputL insF
  rw [ins_false ix x q [] h]
  by_cases ha : q.any (fun y => decide (ix ≤ y.1)) = true
  · rw [if_pos ha]; simp
  · rw [if_neg ha]
    have h2 : q.filter (fun y => decide (ix < y.1)) = [] := by
      rw [List.filter_eq_nil_iff]
      intro z hz hc
      exact ha (List.any_eq_true.2 ⟨z, hz, by simp at hc ⊢; omega⟩)
    rw [h2]; simp
theorem mem_rputL {q : List (Int × Pg)} (h : Rise q) {ix : Int} {x : Pg} {y : Int × Pg} : y ∈ rputL q ix x ↔ y = (ix, x) ∨ (y ∈ q ∧ y.1 ≠ ix) := by
  rw [rputL_eq h]
  simp only [List.mem_append, List.mem_filter, List.mem_singleton, decide_eq_true_eq]
  constructor
  · rintro ((⟨h1, h2⟩ | h1) | ⟨h1, h2⟩)
    · exact .inr ⟨h1, by omega⟩
    · exact .inl h1
    · exact .inr ⟨h1, by omega⟩
  · rintro (h1 | ⟨h1, h2⟩)
    · exact .inl (.inr h1)
    · by_cases h3 : y.1 < ix
      · exact .inl (.inl ⟨h1, h3⟩)
      · exact .inr ⟨h1, by omega⟩
theorem rise_rputL {q : List (Int × Pg)} (h : Rise q) (ix : Int) (x : Pg) : Rise (rputL q ix x) := by
  rw [rputL_eq h]
  unfold Rise
  rw [List.append_assoc, List.pairwise_append]
  refine ⟨h.filter _, ?_, fun a ha b hb => ?_⟩
  · rw [List.singleton_append, List.pairwise_cons]
    exact ⟨fun z hz => by simpa using (List.mem_filter.1 hz).2, h.filter _⟩
  · have h1 : a.1 < ix := by simpa using (List.mem_filter.1 ha).2
    rcases List.mem_append.1 hb with hb | hb
    · rw [List.mem_singleton.1 hb]; exact h1
    · have h2 : ix < b.1 := by simpa using (List.mem_filter.1 hb).2
      omega
/-- A map of pages, and the document's list of them. -/
structure PR (q q' : List (Int × Pg)) : Prop where
  nodup : (q.map (·.1)).Nodup
  rise : Rise q'
  mem : ∀ k v, alGet q k = some v ↔ (k, v) ∈ q'
  rng : ∀ x ∈ q', 0 ≤ x.1 ∧ x.1 < 4096
theorem len4096 (l : List Int) (hn : l.Nodup) (h : ∀ x ∈ l, 0 ≤ x ∧ x < 4096) : l.length ≤ 4096 := by
  have := len_sub l ((List.range 4096).map fun k : Nat => (k : Int)) hn (fun x hx => by
    obtain ⟨h1, h2⟩ := h x hx
    exact List.mem_map.2 ⟨x.toNat, List.mem_range.2 (by omega), by omega⟩)
  simpa using this
section
variable {q q' : List (Int × Pg)}
theorem PR.nil : PR [] [] := ⟨by simp, by simp [Rise], fun k v => ⟨fun h => (by cases h), fun h => (by cases h)⟩, fun x hx => (by cases hx)⟩
theorem PR.set (h : PR q q') {ix : Int} (h0 : 0 ≤ ix) (h1 : ix < 4096) (x : Pg) : PR (alSet q ix x) (rputL q' ix x) where
  nodup := alSet_nodup _ _ _ h.nodup
  rise := rise_rputL h.rise ix x
  mem := fun k v => by
    rw [alGet_set, mem_rputL h.rise]
    split
    · rename_i hk
      subst hk
      constructor
      · intro h2; cases h2; exact .inl rfl
      · rintro (h2 | ⟨_, h2⟩)
        · cases h2; rfl
        · exact absurd rfl h2
    · rename_i hk
      rw [h.mem]
      constructor
      · intro h2; exact .inr ⟨h2, hk⟩
      · rintro (h2 | ⟨h2, _⟩)
        · cases h2; exact absurd rfl hk
        · exact h2
  rng := fun y hy => by
    rcases (mem_rputL h.rise).1 hy with rfl | ⟨hy, _⟩
    · exact ⟨h0, h1⟩
    · exact h.rng y hy
theorem PR.del (h : PR q q') (ix : Int) : PR (alDel q ix) (outP q' ix) where
  nodup := alDel_nodup _ _ h.nodup
  rise := h.rise.filter _
  mem := fun k v => by
    rw [alGet_del _ _ _ h.nodup]
    unfold outP
    rw [List.mem_filter]
    split
    · rename_i hk
      subst hk
      simp
    · rename_i hk
      rw [h.mem]
      simp [hk]
  rng := fun y hy => h.rng y (List.mem_filter.1 hy).1
theorem PR.nodup' (h : PR q q') : (q'.map (·.1)).Nodup := by
  rw [List.nodup_iff_pairwise_ne, List.pairwise_map]
  exact h.rise.imp (fun h => by omega)
theorem PR.len' (h : PR q q') : q'.length ≤ 4096 := by
  have := len4096 (q'.map (·.1)) h.nodup' (fun x hx => by
    obtain ⟨y, hy, rfl⟩ := List.mem_map.1 hx
    exact h.rng y hy)
  simpa using this
theorem PR.key (h : PR q q') {k : Int} (hk : k ∈ q.map (·.1)) : ∃ v, (k, v) ∈ q' := by
  obtain ⟨v, hv⟩ := alGet_some_of q k hk
  exact ⟨v, (h.mem k v).1 hv⟩
theorem PR.keys (h : PR q q') : ObKeys q := ⟨fun k hk => by
    obtain ⟨v, hv⟩ := h.key hk
    have := h.rng _ hv
    dsimp only at this
    exact wf_small this.1 (by omega), by
    have := len4096 (q.map (·.1)) h.nodup (fun x hx => by
      obtain ⟨v, hv⟩ := h.key hx
      exact h.rng _ hv)
    simpa using this⟩
theorem PR.empty (h : PR q q') : q = [] ↔ q' = [] := by
  constructor
  · rintro rfl
    cases q' with
    | nil => rfl
    | cons x t => have := (h.mem x.1 x.2).2 (by simp); cases this
  · rintro rfl
    cases q with
    | nil => rfl
    | cons x t => obtain ⟨v, hv⟩ := h.key (k := x.1) (by simp); cases hv
theorem PR.pages (h : PR q q') (lo hi : Int) : pagesR q lo hi = inR q' lo hi := by
  refine rise_ext (·.1) _ _ (pagesR_rise h.nodup lo hi) (h.rise.filter _) fun y => ?_
  rw [pagesR_mem]
  unfold inR
  rw [List.mem_filter, h.mem]
  simp only [Bool.and_eq_true, decide_eq_true_eq]
  constructor
  · rintro ⟨a, b, c⟩; exact ⟨c, a, b⟩
  · rintro ⟨c, a, b⟩; exact ⟨a, b, c⟩
theorem PR.get (h : PR q q') (ix : Int) : ((inR q' 0 4096).find? fun x => decide (x.1 = ix)).map (·.2) = alGet q ix := by
  have hall : inR q' 0 4096 = q' := by
    unfold inR
    rw [List.filter_eq_self]
    intro x hx
    have := h.rng x hx
    simp [this.1, this.2]
  rw [hall]
  cases hf : q'.find? (fun x => decide (x.1 = ix)) with
  | some x =>
    have h1 := List.find?_some hf
    have h2 := List.mem_of_find?_eq_some hf
    obtain rfl : x.1 = ix := by simpa using h1
    exact ((h.mem _ _).2 h2).symm
  | none =>
    cases hg : alGet q ix with
    | none => rfl
    | some v =>
      have h1 := (h.mem _ _).1 hg
      have := List.find?_eq_none.1 hf _ h1
      simp at this
end
/-! ### Objects -/
structure OB (o o' : Obt) : Prop where
  file : o.1 = o'.1
  refs : o.2.1 = o'.2.1
  pages : PR o.2.2 o'.2.2
  ok : 0 ≤ o.2.1 ∧ o.2.1 ≤ 1000000
def OptR (a b : Option Obt) : Prop := (a = none ∧ b = none) ∨ ∃ o o', a = some o ∧ b = some o' ∧ OB o o'
structure PO (l : List (Int × Obt)) (R : List (Option Obt)) : Prop where
  nodup : (l.map (·.1)).Nodup
  rel : ∀ id, OptR (alGet l id) (rgetR R id)
theorem rgetR_set {α : Type} {R : List (Option α)} {j : Nat} (hj : j < R.length) (x : Option α) (id : Int) : rgetR (R.set j x) id = if id = (j : Int) + 1 then x else rgetR R id := by
  unfold rgetR
  by_cases h1 : 1 ≤ id
  · rw [if_pos h1, if_pos h1, List.getElem?_set]
    by_cases h2 : id = (j : Int) + 1
    · rw [if_pos h2, if_pos (by omega), if_pos hj]; rfl
    · rw [if_neg h2, if_neg (by omega)]
  · rw [if_neg h1, if_neg h1, if_neg (by omega)]
theorem rgetR_app {α : Type} (R : List (Option α)) (x : Option α) (id : Int) : rgetR (R ++ [x]) id = if id = (R.length : Int) + 1 then x else rgetR R id := by
  unfold rgetR
  by_cases h1 : 1 ≤ id
  · rw [if_pos h1, if_pos h1, List.getElem?_append]
    by_cases h2 : id = (R.length : Int) + 1
    · rw [if_pos h2, if_neg (by omega), show (id - 1).toNat - R.length = 0 by omega]; rfl
    · rw [if_neg h2]
      by_cases h3 : (id - 1).toNat < R.length
      · rw [if_pos h3]
      · rw [if_neg h3, List.getElem?_eq_none (by simp; omega), List.getElem?_eq_none (by omega)]
  · rw [if_neg h1, if_neg h1, if_neg (by omega)]
section
variable {l : List (Int × Obt)} {R : List (Option Obt)}
theorem PO.start : PO [] [] := ⟨by simp, fun id => .inl ⟨rfl, by unfold rgetR; split <;> simp⟩⟩
theorem PO.none_iff (h : PO l R) (id : Int) : alGet l id = none ↔ rgetR R id = none := by
  rcases h.rel id with ⟨h1, h2⟩ | ⟨o, o', h1, h2, _⟩
  · simp [h1, h2]
  · simp [h1, h2]
theorem PO.none' (h : PO l R) {id : Int} (hg : alGet l id = none) : rgetR R id = none := (h.none_iff id).1 hg
theorem PO.some' (h : PO l R) {id : Int} {o : Obt} (hg : alGet l id = some o) : ∃ o', rgetR R id = some o' ∧ OB o o' := by
  rcases h.rel id with ⟨h1, h2⟩ | ⟨p, o', h1, h2, h3⟩
  · rw [h1] at hg; cases hg
  · rw [h1] at hg; cases hg; exact ⟨o', h2, h3⟩
theorem PO.back (h : PO l R) {id : Int} {o' : Obt} (hg : rgetR R id = some o') : ∃ o, alGet l id = some o ∧ OB o o' := by
  rcases h.rel id with ⟨h1, h2⟩ | ⟨p, p', h1, h2, h3⟩
  · rw [h2] at hg; cases hg
  · rw [h2] at hg; cases hg; exact ⟨p, h1, h3⟩
theorem PO.few (h : PO l R) (hR : R.length ≤ 5000) : RFew R := ⟨hR, fun id o' hg => by
  obtain ⟨o, _, h1⟩ := h.back hg
  have := h1.pages.len'; omega⟩
theorem PO.refs (h : PO l R) : ∀ id o, alGet l id = some o → 0 ≤ o.2.1 ∧ o.2.1 ≤ 1000000 := fun id o hg => by
  obtain ⟨o', _, h1⟩ := h.some' hg
  exact h1.ok
theorem PO.refs' (h : PO l R) : ∀ id o, rgetR R id = some o → 0 ≤ o.2.1 ∧ o.2.1 ≤ 1000000 := fun id o' hg => by
  obtain ⟨o, _, h1⟩ := h.back hg
  rw [← h1.refs]; exact h1.ok
theorem PO.key_iff (h : PO l R) (x : Int) : x ∈ l.map (·.1) ↔ x ∈ oids R := by
  rw [mem_oids]
  constructor
  · intro hx
    obtain ⟨o, ho⟩ := alGet_some_of l x hx
    obtain ⟨o', h1, _⟩ := h.some' ho
    exact ⟨o', h1⟩
  · rintro ⟨o', ho⟩
    obtain ⟨o, h1, _⟩ := h.back ho
    exact List.mem_map.2 ⟨_, alGet_mem l x o h1, rfl⟩
theorem oids_nodup {α : Type} (R : List (Option α)) : (oids R).Nodup := (oidsF_sorted R 0).imp (fun h e => by omega)
theorem PO.ids (h : PO l R) : oids R = idsOf l := by
  have hs := oidsF_sorted R 0
  have hp : (oids R).Perm (l.map (·.1)) := (List.perm_ext_iff_of_nodup (oids_nodup R) h.nodup).2 fun x => (h.key_iff x).symm
  unfold idsOf
  rw [← sortI_of_perm hp]
  unfold sortI
  refine (List.mergeSort_of_pairwise ?_).symm
  exact hs.imp (fun h => by simp; omega)
theorem PO.count (h : PO l R) : (oids R).length = l.length := by rw [h.ids, idsOf_len]
theorem PO.keys (h : PO l R) (hR : R.length ≤ 4096) : ObKeys l := ⟨fun k hk => by
    obtain ⟨a, ha⟩ := mem_oids.1 ((h.key_iff k).1 hk)
    obtain ⟨j, rfl, hj⟩ := rgetR_some ha
    have := (List.getElem?_eq_some_iff.1 hj).1
    exact wf_small (by omega) (by omega), by
    have := oidsF_len R 0
    have := h.count
    unfold oids at this; omega⟩
theorem PO.file (h : PO l R) (id : Int) : rfileR R id = fileR l id := by
  unfold rfileR fileR
  rcases h.rel id with ⟨h1, h2⟩ | ⟨o, o', h1, h2, h3⟩
  · simp [h1, h2]
  · rw [h1, h2]; exact h3.file.symm
theorem PO.of (h : PO l R) (file : Int) : rofR R file = ofR l file := by
  unfold rofR ofR
  rw [h.ids]
  congr 1
  congr 1
  funext id
  rw [h.file]
theorem PO.get (h : PO l R) (id ix : Int) : rgetP R id ix = getR' l id ix := by
  unfold rgetP getR' rpagesR
  rcases h.rel id with ⟨h1, h2⟩ | ⟨o, o', h1, h2, h3⟩
  · rw [h1, h2]; rfl
  · rw [h1, h2]
    exact h3.pages.get ix
theorem PO.turn (h : PO l R) {id : Int} {p' : Obt} (hg : rgetR R id = some p') {o o' : Obt} (ho : OB o o') : PO (alSet l id o) (R.set (id - 1).toNat (some o')) := by
  obtain ⟨j, rfl, hj⟩ := rgetR_some hg
  have hjl := (List.getElem?_eq_some_iff.1 hj).1
  rw [show ((j : Int) + 1 - 1).toNat = j by omega]
  refine ⟨alSet_nodup _ _ _ h.nodup, fun x => ?_⟩
  rw [alGet_set, rgetR_set hjl]
  split
  · exact .inr ⟨o, o', rfl, rfl, ho⟩
  · exact h.rel x
theorem PO.del (h : PO l R) {id : Int} {p' : Obt} (hg : rgetR R id = some p') : PO (alDel l id) (R.set (id - 1).toNat none) := by
  obtain ⟨j, rfl, hj⟩ := rgetR_some hg
  have hjl := (List.getElem?_eq_some_iff.1 hj).1
  rw [show ((j : Int) + 1 - 1).toNat = j by omega]
  refine ⟨alDel_nodup _ _ h.nodup, fun x => ?_⟩
  rw [alGet_del _ _ _ h.nodup, rgetR_set hjl]
  split
  · exact .inl ⟨rfl, rfl⟩
  · exact h.rel x
theorem PO.tidy (h : PO l R) (id : Int) : PO (tidyR l id) (rtidyR R id) := by
  unfold tidyR rtidyR
  rcases h.rel id with ⟨h1, h2⟩ | ⟨o, o', h1, h2, h3⟩
  · rw [h1, h2]; exact h
  · rw [h1, h2]
    simp only
    by_cases hc : o.2.1 = 0 ∧ o.2.2 = []
    · rw [if_pos hc, if_pos ⟨by rw [← h3.refs]; exact hc.1, h3.pages.empty.1 hc.2⟩]
      exact h.del h2
    · rw [if_neg hc, if_neg (fun hc' => hc ⟨by rw [h3.refs]; exact hc'.1, h3.pages.empty.2 hc'.2⟩)]
      exact h
theorem tidy_len (R : List (Option Obt)) (id : Int) : (rtidyR R id).length = R.length := by
  unfold rtidyR
  split
  · split <;> simp
  · rfl
theorem PO.ref (h : PO l R) (id x : Int) : (rrefR R id x).1 = (refR l id x).1 ∧ (rrefR R id x).2.1 = (refR l id x).2.1 ∧ PO (refR l id x).2.2 (rrefR R id x).2.2 ∧ (rrefR R id x).2.2.length = R.length := by
  unfold rrefR refR
  rcases h.rel id with ⟨h1, h2⟩ | ⟨o, o', h1, h2, h3⟩
  · rw [h1, h2]; exact ⟨rfl, rfl, h, rfl⟩
  · rw [h1, h2]
    simp only
    rw [← h3.refs]
    by_cases hc : x < -o.2.1 ∨ 1000000 - o.2.1 < x
    · rw [if_pos hc, if_pos hc]; exact ⟨rfl, rfl, h, rfl⟩
    · rw [if_neg hc, if_neg hc]
      refine ⟨rfl, rfl, ?_, by rw [tidy_len]; simp⟩
      exact (h.turn h2 (o := (o.1, o.2.1 + x, o.2.2)) (o' := (o'.1, o.2.1 + x, o'.2.2)) ⟨h3.file, rfl, h3.pages, by dsimp only; omega⟩).tidy id
theorem PO.put (h : PO l R) (id ix : Int) (x : Pg) : (rputR R id ix x).1 = (putR l id ix x).1 ∧ PO (putR l id ix x).2 (rputR R id ix x).2 ∧ (rputR R id ix x).2.length = R.length := by
  unfold rputR putR
  rcases h.rel id with ⟨h1, h2⟩ | ⟨o, o', h1, h2, h3⟩
  · rw [h1, h2]; exact ⟨rfl, h, rfl⟩
  · rw [h1, h2]
    simp only
    by_cases hc : ix < 0 ∨ 4096 ≤ ix
    · rw [if_pos hc, if_pos hc]; exact ⟨rfl, h, rfl⟩
    · rw [if_neg hc, if_neg hc]
      exact ⟨rfl, h.turn h2 (o := (o.1, o.2.1, alSet o.2.2 ix x)) (o' := (o'.1, o'.2.1, rputL o'.2.2 ix x)) ⟨h3.file, h3.refs, h3.pages.set (by omega) (by omega) x, h3.ok⟩, by simp⟩
theorem PO.drop (h : PO l R) (id ix : Int) : (rdropR R id ix).1 = (dropR l id ix).1 ∧ PO (dropR l id ix).2 (rdropR R id ix).2 ∧ (rdropR R id ix).2.length = R.length := by
  unfold rdropR dropR
  rw [h.get]
  unfold getR'
  rcases h.rel id with ⟨h1, h2⟩ | ⟨o, o', h1, h2, h3⟩
  · rw [h1, h2]; exact ⟨rfl, h, rfl⟩
  · rw [h1, h2]
    simp only [Option.bind_some]
    cases hg : alGet o.2.2 ix with
    | none => exact ⟨rfl, h, rfl⟩
    | some p =>
      refine ⟨rfl, ?_, by rw [tidy_len]; simp⟩
      exact (h.turn h2 (o := (o.1, o.2.1, alDel o.2.2 ix)) (o' := (o'.1, o'.2.1, outP o'.2.2 ix)) ⟨h3.file, h3.refs, h3.pages.del ix, h3.ok⟩).tidy id
theorem low_uniq {id id2 : Int} (h : Lowest l id) (h2 : Lowest l id2) : id = id2 := by
  obtain ⟨a1, a2, a3⟩ := h
  obtain ⟨b1, b2, b3⟩ := h2
  rcases Int.lt_trichotomy id id2 with h | h | h
  · exact absurd a2 (b3 id a1 h)
  · exact h
  · exact absurd b2 (a3 id2 b1 h)
theorem PO.make (h : PO l R) {most file id er : Int} {l' : List (Int × Obt)} (hm : MakeR most l file id er l') : (rmakeO most file R).1 = id ∧ (rmakeO most file R).2.1 = er ∧ PO l' (rmakeO most file R).2.2 ∧ (rmakeO most file R).2.2.length ≤ R.length + 1 := by
  unfold rmakeO
  rw [h.of, h.count]
  rcases hm with ⟨h1, rfl, rfl, rfl⟩ | ⟨h1, h2, rfl, rfl, rfl⟩ | ⟨h1, h2, h3, rfl, rfl, rfl⟩ | ⟨h1, h2, h3, rfl, hlow, rfl⟩
  · rw [if_pos h1]; exact ⟨rfl, rfl, h, by simp⟩
  · rw [if_neg (by omega), if_pos h2]; exact ⟨rfl, rfl, h, by simp⟩
  · rw [if_neg (by omega), if_neg h2, if_pos h3]; exact ⟨rfl, rfl, h, by simp⟩
  · rw [if_neg (by omega), if_neg h2, if_neg (by omega)]
    have hnew : OB (file, 1, []) (file, 1, []) := ⟨rfl, rfl, PR.nil, by dsimp only; omega⟩
    have lowOf : ∀ (i : Nat), i ≤ R.length → rgetR R ((i : Int) + 1) = none → (∀ j : Nat, j < i → rgetR R ((j : Int) + 1) ≠ none) → id = (i : Int) + 1 := fun i hi hn hb =>
      low_uniq hlow ⟨by omega, (h.none_iff _).2 hn, fun j hj1 hj2 hc => by
        obtain ⟨k, rfl⟩ : ∃ k : Nat, j = (k : Int) + 1 := ⟨(j - 1).toNat, by omega⟩
        exact hb k (by omega) ((h.none_iff _).1 hc)⟩
    cases hf : R.findIdx? (fun o => o.isNone) with
    | some i =>
      rw [List.findIdx?_eq_some_iff_getElem] at hf
      obtain ⟨hi, h4, h5⟩ := hf
      have hRi : R[i]? = some none := by
        rw [List.getElem?_eq_getElem hi]
        cases hx : R[i] with
        | none => rfl
        | some a => rw [hx] at h4; cases h4
      have hid := lowOf i (by omega) (by rw [rgetR_at, hRi]; rfl) (fun j hj hc => by
        rw [rgetR_at, List.getElem?_eq_getElem (by omega)] at hc
        have := h5 j hj
        cases hx : R[j] with
        | none => rw [hx] at this; simp at this
        | some a => rw [hx] at hc; simp at hc)
      subst hid
      refine ⟨rfl, rfl, ⟨alSet_nodup _ _ _ h.nodup, fun x => ?_⟩, by simp⟩
      rw [alGet_set, rgetR_set hi]
      split
      · exact .inr ⟨_, _, rfl, rfl, hnew⟩
      · exact h.rel x
    | none =>
      rw [List.findIdx?_eq_none_iff] at hf
      have hid := lowOf R.length (Nat.le_refl _) (by rw [rgetR_at, List.getElem?_eq_none (Nat.le_refl _)]; rfl) (fun j hj hc => by
        rw [rgetR_at, List.getElem?_eq_getElem hj] at hc
        have := hf _ (List.getElem_mem hj)
        cases hx : R[j] with
        | none => rw [hx] at this; simp at this
        | some a => rw [hx] at hc; simp at hc)
      subst hid
      refine ⟨rfl, rfl, ⟨alSet_nodup _ _ _ h.nodup, fun x => ?_⟩, by simp⟩
      rw [alGet_set, rgetR_app]
      split
      · exact .inr ⟨_, _, rfl, rfl, hnew⟩
      · exact h.rel x
/-- The pages of an object, as the document has them. -/
theorem PO.pages (h : PO l R) (id lo hi : Int) : rpagesR R id lo hi = ((alGet l id).map fun o => pagesR o.2.2 lo hi).getD [] := by
  unfold rpagesR
  rcases h.rel id with ⟨h1, h2⟩ | ⟨o, o', h1, h2, h3⟩
  · rw [h1, h2]; rfl
  · rw [h1, h2]
    exact (h3.pages.pages lo hi).symm
end
end Go.Proofs.Ytopfknikmhkaeaa
