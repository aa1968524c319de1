/- The pool and the document's pool hold the same: plain laws; both side by side. No conditions but those told. -/
import Derived.Test.YtalinhpdibdlkaaAnRC
import Derived.Test.YtalinhpdibdlkaaIntsG
namespace Go.Proofs.Ytalinhpdibdlkaa
open Go.RowKit
set_option linter.unusedSimpArgs false
set_option linter.unusedVariables false
structure Rel (last : Int) (free : List Int) (l : List (Int × A3)) (L : List A3) : Prop where
  pool : PoolI last free l
  len : (L.length : Int) = last
  item : ∀ (i : Nat) a, L[i]? = some a → 0 ≤ a.1 ∧ a.1 ≤ 1000000 ∧ alGet l ((i : Int) + 1) = if a.1 = 0 then none else some a
theorem Rel.start : Rel 0 [] [] [] := ⟨PoolI.start, rfl, fun i a h => by simp at h⟩
section
variable {last : Int} {free : List Int} {l : List (Int × A3)} {L : List A3}
theorem Rel.nope (h : Rel last free l L) {id : Int} (hid : id < 1 ∨ last < id) : alGet l id = none := alGet_none_of l id fun hm => by
  have := (h.pool.all id).1 (.inl hm); omega
theorem Rel.get (h : Rel last free l L) (id : Int) : rget L id = alGet l id := by
  unfold rget
  by_cases h1 : 1 ≤ id
  · rw [if_pos h1]
    obtain ⟨j, rfl⟩ : ∃ j : Nat, id = (j : Int) + 1 := ⟨(id - 1).toNat, by omega⟩
    rw [show ((j : Int) + 1 - 1).toNat = j by omega]
    cases hj : L[j]? with
    | none =>
      have := List.getElem?_eq_none_iff.1 hj
      rw [h.nope (.inr (by have := h.len; omega))]; rfl
    | some a => rw [(h.item j a hj).2.2]; rfl
  · rw [if_neg h1, h.nope (.inl (by omega))]
theorem mem_ridsF : ∀ (L : List A3) (n : Nat) (x : Int), x ∈ ridsF n L ↔ ∃ (i : Nat) (a : A3), L[i]? = some a ∧ 0 < a.1 ∧ x = (n : Int) + i + 1
  | [], n, x => by simp [ridsF]
  | a :: L, n, x => by
    have ih := mem_ridsF L (n + 1) x
    have key : (∃ (i : Nat) (b : A3), (a :: L)[i]? = some b ∧ 0 < b.1 ∧ x = (n : Int) + i + 1) ↔ (0 < a.1 ∧ x = (n : Int) + 1) ∨ ∃ (i : Nat) (b : A3), L[i]? = some b ∧ 0 < b.1 ∧ x = ((n + 1 : Nat) : Int) + i + 1 := by
      constructor
      · rintro ⟨i, b, h1, h2, h3⟩
        cases i with
        | zero => simp at h1; subst h1; exact .inl ⟨h2, by simpa using h3⟩
        | succ i => exact .inr ⟨i, b, by simpa using h1, h2, by omega⟩
      · rintro (⟨h1, h2⟩ | ⟨i, b, h1, h2, h3⟩)
        · exact ⟨0, a, rfl, h1, by simpa using h2⟩
        · exact ⟨i + 1, b, by simpa using h1, h2, by omega⟩
    rw [key, ← ih]
    simp only [ridsF]
    split
    · rename_i h; simp [h]
    · rename_i h; simp [h]
theorem ridsF_sorted : ∀ (L : List A3) (n : Nat), (ridsF n L).Pairwise (fun x y => x < y)
  | [], n => by simp [ridsF]
  | a :: L, n => by
    have ih := ridsF_sorted L (n + 1)
    simp only [ridsF]
    split
    · refine List.pairwise_cons.2 ⟨fun y hy => ?_, ih⟩
      obtain ⟨i, b, _, _, rfl⟩ := (mem_ridsF L (n + 1) y).1 hy
      omega
    · exact ih
theorem Rel.ids (h : Rel last free l L) : rids L = idsOf l := by
  have hs := ridsF_sorted L 0
  have hnd : (rids L).Nodup := hs.imp (fun h e => by omega)
  have hp : (rids L).Perm (l.map (·.1)) := (List.perm_ext_iff_of_nodup hnd h.pool.keys).2 fun x => by
    unfold rids
    rw [mem_ridsF]
    constructor
    · rintro ⟨i, a, h1, h2, rfl⟩
      have := (h.item i a h1).2.2
      rw [if_neg (by omega)] at this
      exact mem_keys_of_get (a := a) (by rw [← this]; congr 1; omega)
    · intro hx
      have hb := (h.pool.all x).1 (.inl hx)
      obtain ⟨j, rfl⟩ : ∃ j : Nat, x = (j : Int) + 1 := ⟨(x - 1).toNat, by omega⟩
      obtain ⟨a, ha⟩ : ∃ a, L[j]? = some a := ⟨_, List.getElem?_eq_getElem (by have := h.len; omega)⟩
      obtain ⟨b, hb2⟩ := get_of_mem_keys hx
      have hr := h.item j a ha
      rw [hb2] at hr
      refine ⟨j, a, ha, ?_, by omega⟩
      have := hr.2.2
      split at this
      · cases this
      · omega
  unfold idsOf
  rw [← sortI_of_perm hp]
  unfold sortI
  refine (List.mergeSort_of_pairwise ?_).symm
  exact hs.imp (fun h => by simp; omega)
theorem Rel.count (h : Rel last free l L) : (rids L).length = l.length := by rw [h.ids, idsOf_len]
theorem sumR_ridsF (l : List (Int × A3)) : ∀ (L : List A3) (n : Nat), (∀ (i : Nat) a, L[i]? = some a → 0 ≤ a.1 ∧ alGet l (((n + i : Nat) : Int) + 1) = if a.1 = 0 then none else some a) → sumR l (ridsF n L) = rsum L
  | [], n, _ => rfl
  | a :: L, n, h => by
    have h0 := h 0 a rfl
    have ih := sumR_ridsF l L (n + 1) (fun i b hb => by
      have := h (i + 1) b (by simpa using hb)
      rw [show n + (i + 1) = n + 1 + i by omega] at this
      exact this)
    simp only [ridsF, rsum]
    simp only [Nat.add_zero] at h0
    by_cases hp : 0 < a.1
    · rw [if_neg (by omega)] at h0
      rw [if_pos hp]
      simp only [sumR, h0.2, Option.getD_some, ih]
    · have hz : a.1 = 0 := by omega
      rw [if_neg hp, ih, hz]; omega
theorem Rel.sum (h : Rel last free l L) : rsum L = allR l := by
  have := sumR_ridsF l L 0 (fun i a ha => ⟨(h.item i a ha).1, by rw [Nat.zero_add]; exact (h.item i a ha).2.2⟩)
  rw [← this]
  unfold allR
  refine sumR_perm l ?_
  show (rids L).Perm _
  rw [h.ids]
  exact idsOf_perm l
theorem Rel.refs (h : Rel last free l L) : ∀ a ∈ L, 0 ≤ a.1 ∧ a.1 ≤ 1000000 := fun a ha => by
  obtain ⟨i, hi⟩ := List.mem_iff_getElem?.1 ha
  have := h.item i a hi
  exact ⟨this.1, this.2.1⟩
theorem Rel.full (h : Rel last free l L) {most : Int} (hm : most ≤ l.length) (f : Int) : rmakeO f most L = (0, 5, L) := by unfold rmakeO; rw [h.count, if_pos hm]
theorem Rel.make (h : Rel last free l L) {most : Int} (hm : (l.length : Int) < most) {id last' : Int} {free' : List Int} (hM : Made free last id last' free') (hh : HeapOK free) (f : Int) :
    ∃ L', rmakeO f most L = (id, 0, L') ∧ Rel last' free' (alSet l id (1, f, -1)) L' ∧ L'.length ≤ L.length + 1 := by
  obtain ⟨g1, g2, g3, g4, g5, g6, g7, g8⟩ := h.pool.make hM hh f
  have hrec : ∀ (i : Nat) a, L[i]? = some a → (i : Int) + 1 ≠ id → 0 ≤ a.1 ∧ a.1 ≤ 1000000 ∧ alGet (alSet l id (1, f, -1)) ((i : Int) + 1) = if a.1 = 0 then none else some a := fun i a ha hne => by
    rw [alGet_set, if_neg hne]; exact h.item i a ha
  obtain ⟨j, rfl⟩ : ∃ j : Nat, id = (j : Int) + 1 := ⟨(id - 1).toNat, by omega⟩
  have hbefore : ∀ (i : Nat) b, i < j → L[i]? = some b → b.1 ≠ 0 := fun i b hi hb hz => by
    have h1 := (h.item i b hb).2.2
    rw [if_pos hz] at h1
    obtain ⟨c, hc⟩ := get_of_mem_keys (g7 ((i : Int) + 1) (by omega) (by omega))
    rw [h1] at hc; cases hc
  unfold rmakeO
  rw [h.count, if_neg (by omega)]
  have hlen := h.len
  have hle : (j : Int) ≤ last := by
    rcases hM with ⟨_, h1, _⟩ | ⟨hne, h1, _, hp⟩
    · omega
    · have := (h.pool.all ((j : Int) + 1)).1 (.inr (hp.mem_iff.1 (List.mem_cons_self ..)))
      omega
  by_cases hjL : j < L.length
  · obtain ⟨a, ha⟩ : ∃ a, L[j]? = some a := ⟨_, List.getElem?_eq_getElem hjL⟩
    have hz : a.1 = 0 := by
      have h1 := (h.item j a ha).2.2
      rw [g1] at h1
      split at h1
      · assumption
      · cases h1
    have hlast : last' = last := by
      rcases hM with ⟨_, h1, _⟩ | ⟨_, _, h1, _⟩
      · omega
      · exact h1
    rw [find_first ha hz hbefore]
    refine ⟨L.set j (1, f, -1), rfl, ⟨g2, by rw [List.length_set]; omega, fun i b hb => ?_⟩, by simp⟩
    by_cases hij : i = j
    · subst hij
      rw [List.getElem?_set_self hjL] at hb
      cases hb
      refine ⟨by simp, by simp, ?_⟩
      rw [alGet_set, if_pos rfl, if_neg (by simp)]
    · rw [List.getElem?_set_ne (fun e => hij e.symm)] at hb
      exact hrec i b hb (by omega)
  · obtain rfl : j = L.length := by omega
    have hlast : last' = last + 1 := by
      rcases hM with ⟨_, _, h1, _⟩ | ⟨hne, h1, _, hp⟩
      · exact h1
      · have := (h.pool.all ((L.length : Int) + 1)).1 (.inr (hp.mem_iff.1 (List.mem_cons_self ..)))
        omega
    rw [find_none (fun i b hb => hbefore i b (List.getElem?_eq_some_iff.1 hb).1 hb)]
    refine ⟨L ++ [(1, f, -1)], rfl, ⟨g2, by simp; omega, fun i b hb => ?_⟩, by simp⟩
    by_cases hij : i = L.length
    · subst hij
      simp at hb
      subst hb
      refine ⟨by simp, by simp, ?_⟩
      rw [alGet_set, if_pos rfl, if_neg (by simp)]
    · have hi : i < L.length := by
        have := (List.getElem?_eq_some_iff.1 hb).1
        simp at this; omega
      rw [List.getElem?_append_left hi] at hb
      exact hrec i b hb (by omega)
/-- A change, on both sides. -/
theorem Rel.change (h : Rel last free l L) {id : Int} {y : A3} {er : Int} {free' : List Int} {l' : List (Int × A3)} {res : A3 → Int × A3} (hc : ChOut res free l id y er free' l')
    (hres : ∀ a, alGet l id = some a → (res a).1 = 0 → 0 ≤ (res a).2.1 ∧ (res a).2.1 ≤ 1000000) :
    free'.length ≤ free.length + 1 ∧ l'.length ≤ l.length ∧ match rget L id with
      | none => y = (0, 0, 0) ∧ er = 7 ∧ Rel last free' l' L
      | some a => if (res a).1 = 0 then y = (res a).2 ∧ er = 0 ∧ Rel last free' l' (L.set (id - 1).toNat (res a).2) else y = (0, 0, 0) ∧ er = (res a).1 ∧ Rel last free' l' L := by
  obtain ⟨q1, q2, q3, q4⟩ := h.pool.change hc hres
  refine ⟨q3, q2, ?_⟩
  rw [h.get]
  rcases q4 with ⟨a, hga, hr0, rfl, rfl, hoth, _, hcs⟩ | ⟨rfl, rfl, rfl, hcs⟩
  · rw [hga]
    dsimp only
    rw [if_pos hr0]
    refine ⟨rfl, rfl, q1, by rw [List.length_set]; exact h.len, fun i b hb => ?_⟩
    have hin := (h.pool.all id).1 (.inl (mem_keys_of_get hga))
    obtain ⟨j, rfl⟩ : ∃ j : Nat, id = (j : Int) + 1 := ⟨(id - 1).toNat, by omega⟩
    rw [show ((j : Int) + 1 - 1).toNat = j by omega] at hb
    have hjL : j < L.length := by have := h.len; omega
    have hbd := hres a hga hr0
    by_cases hij : i = j
    · subst hij
      rw [List.getElem?_set_self hjL] at hb
      cases hb
      refine ⟨hbd.1, hbd.2, ?_⟩
      rcases hcs with ⟨hz, hn, _⟩ | ⟨hz, hs, _⟩
      · rw [hn, if_pos hz]
      · rw [hs, if_neg hz]
    · rw [List.getElem?_set_ne (fun e => hij e.symm)] at hb
      rw [hoth _ (by omega)]
      exact h.item i b hb
  · rcases hcs with ⟨hn, rfl⟩ | ⟨a, hga, hr0, rfl⟩
    · rw [hn]; exact ⟨rfl, rfl, h⟩
    · rw [hga]
      dsimp only
      rw [if_neg hr0]
      exact ⟨rfl, rfl, h⟩
theorem Rel.ref (h : Rel last free l L) {id x : Int} {y : A3} {er : Int} {free' : List Int} {l' : List (Int × A3)} (hc : ChOut (refRes x) free l id y er free' l') :
    free'.length ≤ free.length + 1 ∧ l'.length ≤ l.length ∧ ∃ L', rrefO x L id = (y, er, L') ∧ Rel last free' l' L' ∧ L'.length = L.length := by
  obtain ⟨k1, k2, k3⟩ := h.change hc (fun a hg he => by have := refRes_ok (h.pool.refsOK _ _ hg) he; omega)
  refine ⟨k1, k2, ?_⟩
  unfold rrefO
  cases hg : rget L id with
  | none =>
    rw [hg] at k3
    obtain ⟨rfl, rfl, k4⟩ := k3
    exact ⟨L, rfl, k4, rfl⟩
  | some a =>
    rw [hg] at k3
    dsimp only at k3 ⊢
    by_cases hx : x < -a.1 ∨ 1000000 - a.1 < x
    · have hr : refRes x a = (2, a) := by unfold refRes; rw [if_pos hx]
      rw [hr, if_neg (by simp)] at k3
      obtain ⟨rfl, rfl, k4⟩ := k3
      rw [if_pos hx]
      exact ⟨L, rfl, k4, rfl⟩
    · have hr : refRes x a = (0, (a.1 + x, a.2)) := by unfold refRes; rw [if_neg hx]
      rw [hr, if_pos rfl] at k3
      obtain ⟨rfl, rfl, k4⟩ := k3
      rw [if_neg hx]
      exact ⟨_, rfl, k4, by simp⟩
theorem Rel.put (h : Rel last free l L) {id x z : Int} {y : A3} {er : Int} {free' : List Int} {l' : List (Int × A3)} (hc : ChOut (putRes x z) free l id y er free' l') :
    free'.length ≤ free.length + 1 ∧ l'.length ≤ l.length ∧ ∃ L', rputO x z L id = (er, L') ∧ Rel last free' l' L' ∧ L'.length = L.length := by
  obtain ⟨k1, k2, k3⟩ := h.change hc (fun a hg he => (h.pool.refsOK _ a hg : 0 ≤ a.1 ∧ a.1 ≤ 1000000))
  refine ⟨k1, k2, ?_⟩
  unfold rputO
  cases hg : rget L id with
  | none =>
    rw [hg] at k3
    obtain ⟨-, rfl, k4⟩ := k3
    exact ⟨L, rfl, k4, rfl⟩
  | some a =>
    rw [hg] at k3
    dsimp only at k3 ⊢
    rw [if_pos (show (putRes x z a).1 = 0 from rfl)] at k3
    obtain ⟨-, rfl, k4⟩ := k3
    exact ⟨_, rfl, k4, by simp⟩
end
/-- A pool, in blocks of S. -/
def PoolTh (b m : Nat) (most : Int) (st : Int × List Int × List (Int × A3)) : Thing := fun w S => ∃ fv, PoolT w b m most st.1 fv st.2.1 st.2.2 ∧ ∀ k, poolS b m fv k → S k
theorem PoolTh.steady {b m : Nat} {most : Int} {st : Int × List Int × List (Int × A3)} : Steady (PoolTh b m most st) where
  fr := fun ⟨fv, h, hs⟩ hf hn => ⟨fv, h.fr hf (fun k hk => hn k (hs k hk) (h.slt hk)), hs⟩
  cut := fun ⟨fv, h, hs⟩ => ⟨fv, h, fun k hk => ⟨hs k hk, h.slt hk⟩⟩
  wide := fun ⟨fv, h, hs⟩ hw => ⟨fv, h, fun k hk => hw k (hs k hk)⟩
section
variable {b m : Nat} {most last : Int} {free : List Int} {l : List (Int × A3)} {w : World} {S : Nat → Prop}
theorem PoolTh.x (h : PoolTh b m most (last, free, l) w S) : PoolX (fun k => k < w.heap.size ∧ ¬ S k) w w b m most last free l :=
  let ⟨fv, hT, hs⟩ := h
  ⟨fv, hT, fun k hk hp => hp.2 (hs k hk), Fr.refl _ _, fun k hp => hp.1⟩
theorem PoolTh.of {w' : World} {last' : Int} {free' : List Int} {l' : List (Int × A3)} (h : PoolX (fun k => k < w.heap.size ∧ ¬ S k) w w' b m most last' free' l') : PoolTh b m most (last', free', l') w' (fun k => S k ∨ w.heap.size ≤ k) ∧ Fr S w w' := by
  obtain ⟨fv, h1, h2, h3, h4⟩ := h
  refine ⟨⟨fv, h1, fun k hk => ?_⟩, h3.mono fun k hk hn => Classical.byContradiction fun hs => hn ⟨hk, hs⟩⟩
  by_cases hs : S k
  · exact .inl hs
  · right
    have := h2 k hk
    exact Nat.le_of_not_lt fun hlt => this ⟨hlt, hs⟩
end
end Go.Proofs.Ytalinhpdibdlkaa
