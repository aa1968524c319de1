/- Plain laws of items in rows: a list of rows, and where each item stands. No program. -/
import Derived.Test.YtfcpodlbombimaaMapsC
namespace Go.Proofs.Ytfcpodlbombimaa
open Go.RowKit
set_option linter.unusedSimpArgs false
set_option linter.unusedVariables false
set_option linter.unusedSectionVars false
theorem run_maplen {P : Program} {κ α : Type} {K E T ty : TypeId} {enc : κ → Value} {ev : α → Value} {w : World} {m : Nat} {l : List (κ × α)} (hT : P.underlying T = some (.map K E)) (hm : MapIs enc ev w m l) :
    (Builtin.len_ #[T] ty #[.map (some m)]).run P w = .ok (.int .i64 l.length) w := by
  obtain ⟨es, c, h1, h2, h3, h4⟩ := hm
  have hsz : es.size = l.length := by have := congrArg List.length h2; simpa using this
  unfold Builtin.len_
  change Sem.run P (Go.underlying T >>= _) w = _
  rw [Sem.run_bind, run_und hT]
  change Sem.run P (Go.getObj m >>= _) w = _
  rw [Sem.run_bind, run_getObj_ob, h1]
  show Result.ok (goInt es.size) w = _
  rw [hsz]; rfl
theorem split_at {α : Type} {L : List α} {j : Nat} {l : α} (h : L[j]? = some l) : L = L.take j ++ l :: L.drop (j + 1) ∧ ∀ l', L.set j l' = L.take j ++ l' :: L.drop (j + 1) := by
  have hj : j < L.length := (List.getElem?_eq_some_iff.1 h).1
  refine ⟨?_, fun l' => by rw [List.set_eq_take_append_cons_drop, if_pos hj]⟩
  have h2 : L[j] = l := (List.getElem?_eq_some_iff.1 h).2
  rw [← h2, ← List.drop_eq_getElem_cons hj, List.take_append_drop]
section
variable {κ : Type} [DecidableEq κ]
def remL (L : List (List κ)) (x : κ) : List (List κ) := L.map (fun l => l.filter (fun y => !decide (y = x)))
structure Good (L : List (List κ)) (W : List (κ × Int)) : Prop where
  keys : (W.map (·.1)).Nodup
  flat : L.flatten.Nodup
  iff : ∀ x (i : Int), (x, i) ∈ W ↔ ∃ (j : Nat) (l : List κ), L[j]? = some l ∧ x ∈ l ∧ i = j
  most : L.flatten.length ≤ 4096
theorem mem_flat {L : List (List κ)} {x : κ} : x ∈ L.flatten ↔ ∃ (j : Nat) (l : List κ), L[j]? = some l ∧ x ∈ l := by
  rw [List.mem_flatten]
  constructor
  · rintro ⟨l, hl, hx⟩
    obtain ⟨j, hj⟩ := List.mem_iff_getElem?.1 hl
    exact ⟨j, l, hj, hx⟩
  · rintro ⟨j, l, hj, hx⟩
    exact ⟨l, List.mem_of_getElem? hj, hx⟩
theorem alGet_mem {α : Type} : ∀ {W : List (κ × α)}, (W.map (·.1)).Nodup → ∀ x (i : α), alGet W x = some i ↔ (x, i) ∈ W
  | [], _, x, i => by simp [alGet]
  | (y, u) :: W, h, x, i => by
    simp only [List.map_cons, List.nodup_cons] at h
    have ih := alGet_mem h.2 x i
    unfold alGet
    by_cases hy : y = x
    · subst hy
      have hn : (y, i) ∉ W := fun hm => h.1 (List.mem_map.2 ⟨_, hm, rfl⟩)
      simp only [if_true, List.mem_cons, Prod.mk.injEq, true_and, hn, or_false, Option.some.injEq]
      exact eq_comm
    · rw [if_neg hy, ih]
      simp [Ne.symm hy, fun e : x = y => hy e.symm]
theorem alDel_eq {α : Type} : ∀ {W : List (κ × α)}, (W.map (·.1)).Nodup → ∀ x, alDel W x = W.filter (fun p => !decide (p.1 = x))
  | [], _, x => rfl
  | (y, u) :: W, h, x => by
    simp only [List.map_cons, List.nodup_cons] at h
    unfold alDel
    by_cases hy : y = x
    · subst hy
      have hn : ∀ p ∈ W, (!decide (p.1 = y)) = true := fun p hm => by
        simp only [Bool.not_eq_true', decide_eq_false_iff_not]
        intro e; exact h.1 (List.mem_map.2 ⟨p, hm, e⟩)
      simp [List.filter_eq_self.2 hn]
    · simp [hy, alDel_eq h.2 x]
theorem alSet_new {α : Type} : ∀ {W : List (κ × α)} {x : κ}, alGet W x = none → ∀ v, alSet W x v = W ++ [(x, v)]
  | [], _, _, _ => rfl
  | (y, u) :: W, x, h, v => by
    unfold alGet at h
    by_cases hy : y = x
    · rw [if_pos hy] at h; cases h
    · rw [if_neg hy] at h
      unfold alSet
      rw [if_neg hy, alSet_new h v]; rfl
variable {L : List (List κ)} {W : List (κ × Int)} {x : κ}
theorem Good.get_in (h : Good L W) {j : Nat} {l : List κ} (hj : L[j]? = some l) (hx : x ∈ l) : alGet W x = some (j : Int) :=
  (alGet_mem h.keys x _).2 ((h.iff x j).2 ⟨j, l, hj, hx, rfl⟩)
theorem Good.get_some (h : Good L W) {i : Int} (hi : alGet W x = some i) : ∃ (j : Nat) (l : List κ), L[j]? = some l ∧ x ∈ l ∧ i = j := (h.iff x i).1 ((alGet_mem h.keys x i).1 hi)
theorem Good.get_none (h : Good L W) (hx : x ∉ L.flatten) : alGet W x = none := by
  cases hg : alGet W x with
  | none => rfl
  | some i =>
    obtain ⟨j, l, hj, hl, _⟩ := h.get_some hg
    exact absurd (mem_flat.2 ⟨j, l, hj, hl⟩) hx
theorem Good.len (h : Good L W) : W.length = L.flatten.length := by
  have hp : (W.map (·.1)).Perm L.flatten := (List.perm_ext_iff_of_nodup h.keys h.flat).2 fun x => by
    rw [mem_flat, List.mem_map]
    constructor
    · rintro ⟨⟨y, i⟩, hm, rfl⟩
      obtain ⟨j, l, hj, hl, _⟩ := (h.iff y i).1 hm
      exact ⟨j, l, hj, hl⟩
    · rintro ⟨j, l, hj, hl⟩
      exact ⟨(x, (j : Int)), (h.iff x j).2 ⟨j, l, hj, hl, rfl⟩, rfl⟩
  simpa using hp.length_eq
theorem flat_rem (L : List (List κ)) (x : κ) : (remL L x).flatten = L.flatten.filter (fun y => !decide (y = x)) := by
  unfold remL
  rw [List.filter_flatten]
theorem rem_len (L : List (List κ)) (x : κ) : (remL L x).length = L.length := by simp [remL]
theorem rem_get (L : List (List κ)) (x : κ) (j : Nat) : (remL L x)[j]? = L[j]?.map (fun l => l.filter (fun y => !decide (y = x))) := by simp [remL]
theorem rem_not (L : List (List κ)) (x : κ) : x ∉ (remL L x).flatten := by rw [flat_rem]; simp
theorem filt_not {l : List κ} (h : x ∉ l) : l.filter (fun y => !decide (y = x)) = l :=
  List.filter_eq_self.2 fun y hy => by simp; intro e; exact h (e ▸ hy)
theorem rem_id (h : x ∉ L.flatten) : remL L x = L := by
  unfold remL
  conv => rhs; rw [← List.map_id L]
  refine List.map_congr_left fun l hl => filt_not fun hx => h (List.mem_flatten.2 ⟨l, hl, hx⟩)
theorem Good.rem_set (h : Good L W) {j : Nat} {l : List κ} (hj : L[j]? = some l) (hx : x ∈ l) : L.set j (l.filter (fun y => !decide (y = x))) = remL L x := by
  apply List.ext_getElem?
  intro i
  rw [rem_get]
  have hjl : j < L.length := (List.getElem?_eq_some_iff.1 hj).1
  by_cases hi : i = j
  · subst hi
    rw [List.getElem?_set_self hjl, hj]; rfl
  · rw [List.getElem?_set_ne (fun e => hi e.symm)]
    cases hL : L[i]? with
    | none => rfl
    | some m =>
      simp only [Option.map_some, Option.some.injEq]
      refine (filt_not fun hm => ?_).symm
      have h1 := h.get_in hL hm
      have h2 := h.get_in hj hx
      rw [h1] at h2
      simp at h2
      exact hi (by omega)
theorem Good.rem (h : Good L W) (x : κ) : Good (remL L x) (alDel W x) where
  keys := by
    rw [alDel_eq h.keys]
    exact h.keys.sublist (List.filter_sublist.map _)
  flat := by rw [flat_rem]; exact h.flat.sublist List.filter_sublist
  iff y i := by
    rw [alDel_eq h.keys, List.mem_filter, h.iff]
    simp only [Bool.not_eq_true', decide_eq_false_iff_not]
    constructor
    · rintro ⟨⟨j, l, hj, hl, he⟩, hne⟩
      exact ⟨j, _, by rw [rem_get, hj]; rfl, by simp [hl, hne], he⟩
    · rintro ⟨j, l, hj, hl, he⟩
      rw [rem_get] at hj
      cases hL : L[j]? with
      | none => rw [hL] at hj; cases hj
      | some m =>
        rw [hL] at hj
        simp only [Option.map_some, Option.some.injEq] at hj
        subst hj
        simp only [List.mem_filter, Bool.not_eq_true', decide_eq_false_iff_not] at hl
        exact ⟨⟨j, m, hL, hl.1, he⟩, hl.2⟩
  most := by rw [flat_rem]; exact Nat.le_trans (List.length_filter_le _ _) h.most
theorem Good.del_id (h : Good L W) (hx : x ∉ L.flatten) : alDel W x = W := by
  rw [alDel_eq h.keys]
  refine List.filter_eq_self.2 fun p hp => ?_
  simp only [Bool.not_eq_true', decide_eq_false_iff_not]
  intro e
  obtain ⟨j, l, hj, hl, _⟩ := (h.iff p.1 p.2).1 hp
  exact hx (mem_flat.2 ⟨j, l, hj, e ▸ hl⟩)
theorem flat_set {j : Nat} {l l' : List κ} (hj : L[j]? = some l) (hp : l'.Perm (x :: l)) : (L.set j l').flatten.Perm (x :: L.flatten) := by
  obtain ⟨h1, h2⟩ := split_at hj
  rw [h2 l']
  conv => rhs; rw [h1]
  simp only [List.flatten_append, List.flatten_cons]
  have h3 : (l' ++ (L.drop (j + 1)).flatten).Perm (x :: (l ++ (L.drop (j + 1)).flatten)) := hp.append_right _
  exact ((List.Perm.append_left _ h3).trans List.perm_middle)
theorem Good.ins (h : Good L W) (hx : x ∉ L.flatten) (hm : L.flatten.length < 4096) {j : Nat} {l l' : List κ} (hj : L[j]? = some l) (hp : l'.Perm (x :: l)) : Good (L.set j l') (alSet W x (j : Int)) := by
  have hg := h.get_none hx
  have hfp := flat_set hj hp
  have hjl : j < L.length := (List.getElem?_eq_some_iff.1 hj).1
  refine ⟨?_, ?_, ?_, ?_⟩
  · rw [alSet_new hg, List.map_append]
    refine List.nodup_append.2 ⟨h.keys, by simp, ?_⟩
    rintro a ha b hb rfl
    simp only [List.map_cons, List.map_nil, List.mem_singleton] at hb
    subst hb
    obtain ⟨⟨y, i⟩, hm, he⟩ := List.mem_map.1 ha
    have := (alGet_mem h.keys y i).2 hm
    simp only at he
    rw [he, hg] at this; cases this
  · exact hfp.nodup_iff.2 (List.nodup_cons.2 ⟨hx, h.flat⟩)
  · intro y i
    rw [alSet_new hg, List.mem_append, h.iff]
    simp only [List.mem_singleton, Prod.mk.injEq]
    constructor
    · rintro (⟨k, m, hk, hy, he⟩ | ⟨rfl, rfl⟩)
      · by_cases hkj : k = j
        · subst hkj
          rw [hj] at hk; cases hk
          exact ⟨k, l', List.getElem?_set_self hjl, hp.mem_iff.2 (List.mem_cons_of_mem _ hy), he⟩
        · exact ⟨k, m, by rw [List.getElem?_set_ne (fun e => hkj e.symm)]; exact hk, hy, he⟩
      · exact ⟨j, l', List.getElem?_set_self hjl, hp.mem_iff.2 (List.mem_cons_self ..), rfl⟩
    · rintro ⟨k, m, hk, hy, he⟩
      by_cases hkj : k = j
      · subst hkj
        rw [List.getElem?_set_self hjl] at hk; cases hk
        rcases List.mem_cons.1 (hp.mem_iff.1 hy) with rfl | hy
        · exact .inr ⟨rfl, he⟩
        · exact .inl ⟨k, l, hj, hy, he⟩
      · rw [List.getElem?_set_ne (fun e => hkj e.symm)] at hk
        exact .inl ⟨k, m, hk, hy, he⟩
  · have := hfp.length_eq
    simp only [List.length_cons] at this
    omega
theorem Good.row (h : Good L W) {j : Nat} {l : List κ} (hj : L[j]? = some l) : l.length ≤ 4096 := by
  obtain ⟨h1, _⟩ := split_at hj
  have h2 := h.most
  rw [h1] at h2
  simp only [List.flatten_append, List.flatten_cons, List.length_append] at h2
  omega
theorem Good.rem_most (h : Good L W) (hx : x ∈ L.flatten) : (remL L x).flatten.length < 4096 := by
  rw [flat_rem]
  have h1 := h.most
  have h2 : (L.flatten.filter (fun y => !decide (y = x))).length < L.flatten.length := List.length_filter_lt_length_iff_exists.2 ⟨x, hx, by simp⟩
  omega
theorem Good.nil (n : Nat) : Good (List.replicate n ([] : List κ)) [] := by
  have hf : (List.replicate n ([] : List κ)).flatten = [] := by simp
  refine ⟨by simp, by rw [hf]; simp, fun x i => ?_, by rw [hf]; simp⟩
  constructor
  · intro h; cases h
  · rintro ⟨j, l, hj, hl, _⟩
    have : l = [] := List.eq_of_mem_replicate (List.mem_of_getElem? hj)
    subst this; cases hl
/-- Does it stand? -/
def hasR (L : List (List κ)) (x : κ) : Bool := decide (x ∈ L.flatten)
theorem hasR_true (h : x ∈ L.flatten) : hasR L x = true := decide_eq_true h
theorem hasR_false (h : x ∉ L.flatten) : hasR L x = false := decide_eq_false h
/-- May an item come into a row? -/
def may (L : List (List κ)) (n : Int) (x : κ) : Bool := decide (0 ≤ n ∧ n < L.length ∧ (x ∈ L.flatten ∨ L.flatten.length < 4096))
theorem may_false {L : List (List κ)} {n : Int} {x : κ} (h : ¬ (0 ≤ n ∧ n < L.length ∧ (x ∈ L.flatten ∨ L.flatten.length < 4096))) : may L n x = false := decide_eq_false h
def putL (L : List (List κ)) (n : Int) (f : List κ → List κ) : List (List κ) := L.set n.toNat (f (L[n.toNat]?.getD []))
def pushR (L : List (List κ)) (n : Int) (x : κ) : List (List κ) := if may L n x then putL (remL L x) n (· ++ [x]) else L
def frontR (L : List (List κ)) (n : Int) (x : κ) : List (List κ) := if may L n x then putL (remL L x) n (x :: ·) else L
end
end Go.Proofs.Ytfcpodlbombimaa
