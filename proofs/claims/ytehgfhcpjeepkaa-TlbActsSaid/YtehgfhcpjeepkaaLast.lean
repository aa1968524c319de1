/- TlbLast's plain law: what a table keeps was put last, and not flushed since. No conditions. -/
import Derived.Test.YtehgfhcpjeepkaaTabF
import Derived.Test.YtehgfhcpjeepkaaAct
namespace Go.Proofs.Ytehgfhcpjeepkaa
open Go.RowKit
set_option linter.unusedSimpArgs false
set_option linter.unusedVariables false
/-- What an act does to a table. -/
def tstep (n : Int) (l : List (K2 × K2)) (a : ActV) : List (K2 × K2) :=
  if a.kind = 0 then tput n l a.k a.e
  else if a.kind = 1 then l.filter (fun y => !(k2eq y.1.1 y.1.2 a.k.1 a.k.2))
  else if a.kind = 2 then l.filter (fun y => !(y.1.1 == a.k.1))
  else if a.kind = 3 then []
  else l
def tabAt (n : Int) (acts : List ActV) (i : Nat) : List (K2 × K2) := (acts.take i).foldl (tstep n) []
theorem foldl_take_succ {α β : Type} (f : β → α → β) (b : β) (l : List α) (i : Nat) (x : α) (h : l[i]? = some x) : (l.take (i + 1)).foldl f b = f ((l.take i).foldl f b) x := by
  rw [List.take_add_one, h]
  simp
theorem tabAt_succ (n : Int) (acts : List ActV) (i : Nat) (a : ActV) (h : acts[i]? = some a) : tabAt n acts (i + 1) = tstep n (tabAt n acts i) a := foldl_take_succ _ _ _ _ _ h
/-- Where a key was put last, as far as place j; -1 where it was not, or was flushed since. -/
def lstep (k : K2) (j : Int) (b : ActV) (last : Int) : Int :=
  let last := if b.kind = 0 ∧ k2eq b.k.1 b.k.2 k.1 k.2 = true then j else last
  if 0 ≤ last ∧ (b.kind = 1 ∧ k2eq b.k.1 b.k.2 k.1 k.2 = true ∨ b.kind = 2 ∧ b.k.1 = k.1 ∨ b.kind = 3) then -1 else last
def lastAt (acts : List ActV) (k : K2) : Nat → Int
  | 0 => -1
  | j + 1 => match acts[j]? with
    | some b => lstep k j b (lastAt acts k j)
    | none => lastAt acts k j
theorem lastAt_succ (acts : List ActV) (k : K2) (j : Nat) (b : ActV) (h : acts[j]? = some b) : lastAt acts k (j + 1) = lstep k j b (lastAt acts k j) := by simp [lastAt, h]
theorem lastAt_lt (acts : List ActV) (k : K2) : ∀ j, -1 ≤ lastAt acts k j ∧ lastAt acts k j < j
  | 0 => by simp [lastAt]
  | j + 1 => by
    have := lastAt_lt acts k j
    unfold lastAt
    split
    · unfold lstep
      dsimp only
      split <;> split <;> omega
    · omega
theorem k2eq_true {a b c d : Int} : k2eq a b c d = true ↔ a = c ∧ b = d := by simp [k2eq]
theorem alSet_mem {κ α : Type} [DecidableEq κ] : ∀ (l : List (κ × α)) (k : κ) (v : α) (y : κ × α), (l.map (·.1)).Nodup → y ∈ alSet l k v → (y = (k, v)) ∨ (y.1 ≠ k ∧ y ∈ l)
  | [], k, v, y, _, h => by simp [alSet] at h; exact .inl h
  | (x, u) :: l, k, v, y, hn, h => by
    simp only [List.map_cons, List.nodup_cons] at hn
    unfold alSet at h
    by_cases hx : x = k
    · rw [if_pos hx] at h
      rcases List.mem_cons.1 h with rfl | h
      · exact .inl (by rw [← hx])
      · refine .inr ⟨fun e => hn.1 ?_, List.mem_cons_of_mem _ h⟩
        rw [hx, ← e]; exact List.mem_map_of_mem h
    · rw [if_neg hx] at h
      rcases List.mem_cons.1 h with rfl | h
      · exact .inr ⟨hx, List.mem_cons_self ..⟩
      · rcases alSet_mem l k v y hn.2 h with h | ⟨h1, h2⟩
        · exact .inl h
        · exact .inr ⟨h1, List.mem_cons_of_mem _ h2⟩
theorem tstep_nodup (n : Int) (l : List (K2 × K2)) (a : ActV) (h : (l.map (·.1)).Nodup) : ((tstep n l a).map (·.1)).Nodup := by
  unfold tstep
  split
  · exact tput_nodup n l _ _ h
  · split
    · exact nodup_filter h
    · split
      · exact nodup_filter h
      · split
        · simp
        · exact h
theorem tabAt_nodup (n : Int) (acts : List ActV) : ∀ i, ((tabAt n acts i).map (·.1)).Nodup
  | 0 => by simp [tabAt]
  | i + 1 => by
    cases h : acts[i]? with
    | none =>
      have : tabAt n acts (i + 1) = tabAt n acts i := by unfold tabAt; rw [List.take_add_one, h]; simp
      rw [this]; exact tabAt_nodup n acts i
    | some a => rw [tabAt_succ n acts i a h]; exact tstep_nodup n _ a (tabAt_nodup n acts i)
/-- What is kept for a key was put last for it. -/
theorem kept_last (n : Int) (acts : List ActV) : ∀ i, i ≤ acts.length → ∀ y ∈ tabAt n acts i, ∃ j : Nat, j < i ∧ lastAt acts y.1 i = j ∧ ∃ a, acts[j]? = some a ∧ a.e = y.2
  | 0, _, y, hy => by simp [tabAt] at hy
  | i + 1, hi, y, hy => by
    obtain ⟨a, ha⟩ : ∃ a, acts[i]? = some a := ⟨_, List.getElem?_eq_getElem (by omega)⟩
    have ih := kept_last n acts i (by omega) y
    have hb := lastAt_lt acts y.1 i
    rw [tabAt_succ n acts i a ha] at hy
    rw [lastAt_succ acts y.1 i a ha]
    have old : y ∈ tabAt n acts i → lstep y.1 i a (lastAt acts y.1 i) = lastAt acts y.1 i → ∃ j : Nat, j < i + 1 ∧ lstep y.1 i a (lastAt acts y.1 i) = j ∧ ∃ a, acts[j]? = some a ∧ a.e = y.2 := fun h e => by
      obtain ⟨j, h1, h2, h3⟩ := ih h
      exact ⟨j, by omega, by rw [e, h2], h3⟩
    unfold tstep at hy
    by_cases h0 : a.kind = 0
    · rw [if_pos h0] at hy
      have hy2 : y ∈ alSet (tabAt n acts i) a.k a.e := by
        unfold tput at hy
        split at hy
        · exact List.mem_of_mem_tail hy
        · exact hy
      rcases alSet_mem _ _ _ _ (tabAt_nodup n acts i) hy2 with rfl | ⟨h1, h2⟩
      · refine ⟨i, by omega, ?_, a, ha, rfl⟩
        simp [lstep, h0, k2eq]
      · refine old h2 ?_
        have hk : k2eq a.k.1 a.k.2 y.1.1 y.1.2 = false := by
          rw [k2eq_iff]; simp; exact fun e => h1 e.symm
        simp [lstep, h0, hk]
    · rw [if_neg h0] at hy
      by_cases h1 : a.kind = 1
      · rw [if_pos h1] at hy
        obtain ⟨hy1, hy2⟩ := List.mem_filter.1 hy
        refine old hy1 ?_
        have hk : k2eq a.k.1 a.k.2 y.1.1 y.1.2 = false := by
          rw [k2eq_iff] at hy2 ⊢; simp at hy2 ⊢; exact fun e => hy2 e.symm
        simp [lstep, h1, hk]
      · rw [if_neg h1] at hy
        by_cases h2 : a.kind = 2
        · rw [if_pos h2] at hy
          obtain ⟨hy1, hy2⟩ := List.mem_filter.1 hy
          refine old hy1 ?_
          have hk : ¬ a.k.1 = y.1.1 := fun e => by simp [e] at hy2
          simp [lstep, h2, hk]
        · rw [if_neg h2] at hy
          by_cases h3 : a.kind = 3
          · rw [if_pos h3] at hy; simp at hy
          · rw [if_neg h3] at hy
            refine old hy ?_
            simp [lstep, h0, h1, h2, h3]
theorem tstep_len (n : Int) (hn : 0 ≤ n) (l : List (K2 × K2)) (a : ActV) (h : (l.length : Int) ≤ n) : ((tstep n l a).length : Int) ≤ n := by
  unfold tstep
  split
  · exact tput_len n l _ _ h
  · split
    · exact Int.le_trans (Int.ofNat_le.2 (List.length_filter_le _ _)) h
    · split
      · exact Int.le_trans (Int.ofNat_le.2 (List.length_filter_le _ _)) h
      · split
        · simpa using hn
        · exact h
end Go.Proofs.Ytehgfhcpjeepkaa
