/- ObjectPages, in plain Lean: what Pages tells. No conditions. -/
import Derived.Test.YtopfknikmhkaeaaObPg
import Derived.Test.YtopfknikmhkaeaaObFilesP
namespace Go.Proofs.Ytopfknikmhkaeaa
open Go.RowKit
set_option linter.unusedSimpArgs false
set_option linter.unusedVariables false
/-- The number at i, by twenty. -/
def keyAt (xs : List Int) (i : Nat) : Option Int := (xs[i]?).map (· % 20)
/-- The pages of one object after j puts. -/
structure PgOK (xs : List Int) (j : Nat) (q : List (Int × Pg)) : Prop where
  nodup : (q.map (·.1)).Nodup
  few : q.length ≤ j
  tell : ∀ k x, alGet q k = some x → 0 ≤ k ∧ k < 20 ∧ ∃ i : Nat, i < j ∧ x.1 = (i : Int) ∧ keyAt xs i = some k ∧ ∀ i' : Nat, i < i' → i' < j → keyAt xs i' ≠ some k
theorem PgOK.start (xs : List Int) : PgOK xs 0 [] := ⟨by simp, by simp, fun k x h => by cases h⟩
theorem PgOK.put {xs : List Int} {j : Nat} {q : List (Int × Pg)} (h : PgOK xs j q) {v : Int} (hv : xs[j]? = some v) (x : Pg) (hx : x.1 = (j : Int)) : PgOK xs (j + 1) (alSet q (v % 20) x) := by
  have hk : keyAt xs j = some (v % 20) := by unfold keyAt; rw [hv]; rfl
  refine ⟨alSet_nodup _ _ _ h.nodup, Nat.le_trans (alSet_le _ _ _) (Nat.succ_le_succ h.few), fun k y hy => ?_⟩
  rw [alGet_set] at hy
  split at hy
  · rename_i hkv
    cases hy
    subst hkv
    exact ⟨by omega, by omega, j, by omega, hx, hk, fun i' h1 h2 => by omega⟩
  · rename_i hkv
    obtain ⟨h0, h1, i, h2, h3, h4, h5⟩ := h.tell k y hy
    refine ⟨h0, h1, i, by omega, h3, h4, fun i' g1 g2 hc => ?_⟩
    by_cases hij : i' < j
    · exact h5 i' g1 hij hc
    · have : i' = j := by omega
      subst this
      rw [hk] at hc
      exact hkv (Option.some.inj hc).symm
theorem PgOK.keys {xs : List Int} {j : Nat} {q : List (Int × Pg)} (h : PgOK xs j q) (hj : j ≤ 60) : ObKeys q := by
  refine ⟨fun k hk => ?_, by have := h.few; omega⟩
  obtain ⟨x, hx⟩ := alGet_some_of q k hk
  obtain ⟨h0, h1, _⟩ := h.tell k x hx
  exact wf_small h0 (by omega)
theorem idsOf_sorted {α : Type} (q : List (Int × α)) (h : (q.map (·.1)).Nodup) : (idsOf q).Pairwise (· < ·) := by
  have h1 : (idsOf q).Pairwise (fun a b => decide (a ≤ b) = true) := List.pairwise_mergeSort (fun a b c => by simp; omega) (fun a b => by simp; omega) _
  have h2 : (idsOf q).Nodup := (idsOf_perm q).nodup_iff.2 h
  refine (h1.and h2).imp (fun h => ?_)
  obtain ⟨h3, h4⟩ := h
  have := of_decide_eq_true h3
  omega
theorem pagesR_mem {q : List (Int × Pg)} {lo hi : Int} {y : Int × Pg} : y ∈ pagesR q lo hi ↔ lo ≤ y.1 ∧ y.1 < hi ∧ alGet q y.1 = some y.2 := by
  unfold pagesR
  rw [List.mem_filterMap]
  constructor
  · rintro ⟨n, hn, h⟩
    split at h
    · rename_i hc
      rw [Option.map_eq_some_iff] at h
      obtain ⟨x, hx, rfl⟩ := h
      exact ⟨hc.1, hc.2, hx⟩
    · cases h
  · rintro ⟨h1, h2, h3⟩
    refine ⟨y.1, mem_idsOf.2 ?_, by rw [if_pos ⟨h1, h2⟩, h3]; rfl⟩
    exact Decidable.byContradiction fun hc => by rw [alGet_none_of _ _ hc] at h3; cases h3
theorem pagesR_rise {q : List (Int × Pg)} (h : (q.map (·.1)).Nodup) (lo hi : Int) : (pagesR q lo hi).Pairwise (fun a b => a.1 < b.1) := by
  unfold pagesR
  rw [List.pairwise_filterMap]
  refine (idsOf_sorted q h).imp (fun {a b} hab x hx y hy => ?_)
  split at hx
  · split at hy
    · rw [Option.map_eq_some_iff] at hx hy
      obtain ⟨_, _, rfl⟩ := hx
      obtain ⟨_, _, rfl⟩ := hy
      exact hab
    · cases hy
  · cases hx
/-- How many of 0 .. K-1 are there, between lo and hi. -/
def cntP (q : List (Int × Pg)) (lo hi : Int) (k : Int) : Bool := (alGet q k).isSome && decide (lo ≤ k) && decide (k < hi)
def cntTo (q : List (Int × Pg)) (lo hi : Int) (K : Nat) : Nat := (((List.range K).map fun i : Nat => (i : Int)).filter (cntP q lo hi)).length
theorem cntTo_succ (q : List (Int × Pg)) (lo hi : Int) (K : Nat) : cntTo q lo hi (K + 1) = cntTo q lo hi K + if cntP q lo hi K then 1 else 0 := by
  unfold cntTo
  rw [List.range_succ, List.map_append, List.filter_append, List.length_append]
  congr 1
  simp only [List.map_cons, List.map_nil, List.filter_cons, List.filter_nil]
  split <;> rfl
theorem cntTo_le (q : List (Int × Pg)) (lo hi : Int) (K : Nat) : cntTo q lo hi K ≤ K := by
  have h := List.length_filter_le (cntP q lo hi) ((List.range K).map fun i : Nat => (i : Int))
  simpa [cntTo] using h
theorem PgOK.count {xs : List Int} {j : Nat} {q : List (Int × Pg)} (h : PgOK xs j q) (lo hi : Int) : (pagesR q lo hi).length = cntTo q lo hi 20 := by
  have hA : ((pagesR q lo hi).map (·.1)).Nodup := by
    rw [List.nodup_iff_pairwise_ne, List.pairwise_map]
    exact (pagesR_rise h.nodup lo hi).imp (fun h => by omega)
  have hB : (((List.range 20).map fun i : Nat => (i : Int)).filter (cntP q lo hi)).Nodup := by
    refine List.Pairwise.filter _ ?_
    rw [List.pairwise_map]
    exact List.nodup_range.imp (fun h => by omega)
  have hm : ∀ k, k ∈ (pagesR q lo hi).map (·.1) ↔ k ∈ ((List.range 20).map fun i : Nat => (i : Int)).filter (cntP q lo hi) := fun k => by
    rw [List.mem_map, List.mem_filter]
    constructor
    · rintro ⟨y, hy, rfl⟩
      obtain ⟨h1, h2, h3⟩ := pagesR_mem.1 hy
      obtain ⟨h4, h5, _⟩ := h.tell _ _ h3
      refine ⟨List.mem_map.2 ⟨y.1.toNat, by simp; omega, by omega⟩, ?_⟩
      simp [cntP, h1, h2, h3]
    · rintro ⟨_, h2⟩
      simp only [cntP, Bool.and_eq_true, decide_eq_true_eq] at h2
      obtain ⟨x, hx⟩ := Option.isSome_iff_exists.1 h2.1.1
      exact ⟨(k, x), pagesR_mem.2 ⟨h2.1.2, h2.2, hx⟩, rfl⟩
  have h1 := len_sub _ _ hA (fun x hx => (hm x).1 hx)
  have h2 := len_sub _ _ hB (fun x hx => (hm x).2 hx)
  rw [List.length_map] at h1 h2
  exact Nat.le_antisymm h1 h2
/-- A page that is told, behind those that were told before. -/
theorem PgOK.told {xs : List Int} {q : List (Int × Pg)} (h : PgOK xs xs.length q) {lo hi : Int} {pre : List (Int × Pg)} {y : Int × Pg} (hp : pre ++ [y] <+: pagesR q lo hi) :
    (∀ z ∈ pre, z.1 < y.1) ∧ lo ≤ y.1 ∧ y.1 < hi ∧ 0 ≤ y.1 ∧ ∃ i : Nat, i < xs.length ∧ y.2.1 = (i : Int) ∧ keyAt xs i = some y.1 ∧ ∀ i' : Nat, i < i' → i' < xs.length → keyAt xs i' ≠ some y.1 := by
  obtain ⟨t, ht⟩ := hp
  have hy : y ∈ pagesR q lo hi := by rw [← ht]; simp
  obtain ⟨h1, h2, h3⟩ := pagesR_mem.1 hy
  obtain ⟨h4, _, h5⟩ := h.tell _ _ h3
  have hr := pagesR_rise h.nodup lo hi
  rw [← ht, List.append_assoc, List.pairwise_append] at hr
  exact ⟨fun z hz => hr.2.2 z hz y (by simp), h1, h2, h4, h5⟩
end Go.Proofs.Ytopfknikmhkaeaa
