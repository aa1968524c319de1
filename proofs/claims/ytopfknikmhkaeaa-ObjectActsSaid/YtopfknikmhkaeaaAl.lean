/- Lists of keys and values: what setting and dropping a key makes. No conditions. -/
import Derived.Test.YtopfknikmhkaeaaMapsB
namespace Go.Proofs.Ytopfknikmhkaeaa
open Go.RowKit
set_option linter.unusedSimpArgs false
set_option linter.unusedVariables false
set_option linter.unusedSectionVars false
theorem alSet_new {κ α : Type} [DecidableEq κ] : ∀ (l : List (κ × α)) (k : κ) (v : α), k ∉ l.map (·.1) → alSet l k v = l ++ [(k, v)]
  | [], k, v, _ => rfl
  | (x, u) :: l, k, v, h => by
    have hx : x ≠ k := fun e => h (by simp [e])
    simp only [alSet, hx, if_false, List.cons_append]
    rw [alSet_new l k v (fun h2 => h (by simp at h2 ⊢; exact .inr h2))]
theorem alGet_set {κ α : Type} [DecidableEq κ] : ∀ (l : List (κ × α)) (k x : κ) (v : α), alGet (alSet l k v) x = if x = k then some v else alGet l x
  | [], k, x, v => by
    by_cases h : x = k
    · simp [alSet, alGet, h]
    · simp [alSet, alGet, h, Ne.symm h]
  | (y, u) :: l, k, x, v => by
    have ih := alGet_set l k x v
    by_cases hy : y = k
    · subst hy
      by_cases h : x = y
      · subst h; simp [alSet, alGet]
      · simp [alSet, alGet, h, Ne.symm h]
    · by_cases h : y = x
      · subst h; simp [alSet, alGet, hy]
      · simp [alSet, alGet, hy, h, ih]
theorem alGet_none_of {κ α : Type} [DecidableEq κ] : ∀ (l : List (κ × α)) (k : κ), k ∉ l.map (·.1) → alGet l k = none
  | [], k, _ => rfl
  | (x, u) :: l, k, h => by
    have hx : x ≠ k := fun e => h (by simp [e])
    simp only [alGet, hx, if_false]
    exact alGet_none_of l k (fun h2 => h (by simp at h2 ⊢; exact .inr h2))
theorem alGet_del {κ α : Type} [DecidableEq κ] : ∀ (l : List (κ × α)) (k x : κ), (l.map (·.1)).Nodup → alGet (alDel l k) x = if x = k then none else alGet l x
  | [], k, x, _ => by by_cases h : x = k <;> simp [alDel, alGet, h]
  | (y, u) :: l, k, x, hn => by
    simp only [List.map_cons, List.nodup_cons] at hn
    have ih := alGet_del l k x hn.2
    by_cases hy : y = k
    · subst hy
      by_cases h : x = y
      · subst h; simp only [alDel, if_true]; exact alGet_none_of l x hn.1
      · simp [alDel, alGet, h, Ne.symm h]
    · by_cases h : y = x
      · subst h; simp [alDel, alGet, hy]
      · simp [alDel, alGet, hy, h, ih]
theorem alSet_keys {κ α : Type} [DecidableEq κ] : ∀ (l : List (κ × α)) (k : κ) (v : α), (alSet l k v).map (·.1) = if k ∈ l.map (·.1) then l.map (·.1) else l.map (·.1) ++ [k]
  | [], k, v => by simp [alSet]
  | (x, u) :: l, k, v => by
    have ih := alSet_keys l k v
    by_cases hx : x = k
    · subst hx; simp [alSet]
    · simp only [alSet, hx, if_false, List.map_cons, ih, List.mem_cons, Ne.symm hx, false_or]
      split <;> simp
theorem alSet_nodup {κ α : Type} [DecidableEq κ] (l : List (κ × α)) (k : κ) (v : α) (h : (l.map (·.1)).Nodup) : ((alSet l k v).map (·.1)).Nodup := by
  rw [alSet_keys]
  split
  · exact h
  · rename_i hk
    exact List.nodup_append.2 ⟨h, by simp, fun a ha b hb => by simp at hb; subst hb; exact fun e => hk (e ▸ ha)⟩
theorem alSet_le {κ α : Type} [DecidableEq κ] (l : List (κ × α)) (k : κ) (v : α) : (alSet l k v).length ≤ l.length + 1 := by
  have := congrArg List.length (alSet_keys l k v)
  simp only [List.length_map] at this
  rw [this]
  split <;> simp
theorem alSet_len_in {κ α : Type} [DecidableEq κ] (l : List (κ × α)) (k : κ) (v u : α) (h : alGet l k = some u) : (alSet l k v).length = l.length := by
  have := congrArg List.length (alSet_keys l k v)
  simp only [List.length_map] at this
  rw [this, if_pos (Decidable.byContradiction fun hn => by rw [alGet_none_of l k hn] at h; cases h)]
  simp
theorem alDel_sub {κ α : Type} [DecidableEq κ] : ∀ (l : List (κ × α)) (k : κ), (alDel l k).Sublist l
  | [], k => List.Sublist.refl _
  | (x, u) :: l, k => by
    by_cases hx : x = k
    · simp only [alDel, hx, if_true]; exact List.sublist_cons_self _ _
    · simp only [alDel, hx, if_false]; exact (alDel_sub l k).cons_cons _
theorem alGet_snd {κ α β : Type} [DecidableEq κ] (f : α → β) : ∀ (l : List (κ × α)) (k : κ), alGet (l.map fun p => (p.1, f p.2)) k = (alGet l k).map f
  | [], k => rfl
  | (x, u) :: l, k => by
    simp only [List.map_cons, alGet]
    split
    · rfl
    · exact alGet_snd f l k
theorem alSet_snd {κ α β : Type} [DecidableEq κ] (f : α → β) : ∀ (l : List (κ × α)) (k : κ) (v : α), (alSet l k v).map (fun p => (p.1, f p.2)) = alSet (l.map fun p => (p.1, f p.2)) k (f v)
  | [], k, v => rfl
  | (x, u) :: l, k, v => by
    simp only [List.map_cons, alSet]
    split
    · rfl
    · simp only [List.map_cons, alSet_snd f l k v]
theorem alDel_snd {κ α β : Type} [DecidableEq κ] (f : α → β) : ∀ (l : List (κ × α)) (k : κ), (alDel l k).map (fun p => (p.1, f p.2)) = alDel (l.map fun p => (p.1, f p.2)) k
  | [], k => rfl
  | (x, u) :: l, k => by
    simp only [List.map_cons, alDel]
    split
    · rfl
    · simp only [List.map_cons, alDel_snd f l k]
theorem alSet_same {κ α : Type} [DecidableEq κ] : ∀ (l : List (κ × α)) (k : κ) (v : α), alGet l k = some v → alSet l k v = l
  | [], k, v, h => by cases h
  | (x, u) :: l, k, v, h => by
    simp only [alGet] at h
    simp only [alSet]
    split at h
    · rename_i hx; cases h; rw [if_pos hx]
    · rename_i hx; rw [if_neg hx, alSet_same l k v h]
theorem alGet_mem {κ α : Type} [DecidableEq κ] : ∀ (l : List (κ × α)) (k : κ) (v : α), alGet l k = some v → (k, v) ∈ l
  | [], k, v, h => by cases h
  | (x, u) :: l, k, v, h => by
    simp only [alGet] at h
    split at h
    · rename_i hx; cases h; subst hx; simp
    · exact List.mem_cons_of_mem _ (alGet_mem l k v h)
theorem alGet_some_of {κ α : Type} [DecidableEq κ] : ∀ (l : List (κ × α)) (k : κ), k ∈ l.map (·.1) → ∃ v, alGet l k = some v
  | [], k, h => by cases h
  | (x, u) :: l, k, h => by
    by_cases hx : x = k
    · exact ⟨u, by simp [alGet, hx]⟩
    · simp only [List.map_cons, List.mem_cons] at h
      rcases h with h | h
      · exact absurd h.symm hx
      · obtain ⟨v, hv⟩ := alGet_some_of l k h
        exact ⟨v, by simp [alGet, hx, hv]⟩
theorem alDel_nodup {κ α : Type} [DecidableEq κ] (l : List (κ × α)) (k : κ) (h : (l.map (·.1)).Nodup) : ((alDel l k).map (·.1)).Nodup := ((alDel_sub l k).map _).nodup h
section
variable {P : Program} {κ α : Type} [DecidableEq κ] {K : TypeId} {enc : κ → Value} {ev : α → Value} {w w' : World} {m : Nat} {l : List (κ × α)}
variable {ops : Array Oper} {Q : Exit → Act → World → Prop} {a : Act} {rest : List Oper} {o : Oper}
theorem wpList_ran_w {v : Value} {w1 : World} (hw : Region.wanted o (yielded ops a.tmps) = true) (hrun : (execOp a.eval o).run P w = .ok (.value v) w1) (h : wpList P ops Q rest (a.put o.dst v) w1) : wpList P ops Q (o :: rest) a w := by
  refine wpList_step fun K hK => ?_
  rw [if_pos hw]
  unfold Oper.wp
  rw [hrun]
  exact hK _ _ h
theorem wpList_maplen_w (hw : Region.wanted o (yielded ops a.tmps) = true) (T E : TypeId) (x : Operand) (ho : o.op = .call { callee := .builtin .len, args := #[x], argTypes := #[T] }) (hx : a.eval x = .map (some m))
    (hT : P.underlying T = some (.map K E)) (hm : MapIs enc ev w m l)
    (h : wpList P ops Q rest (a.put o.dst (.int .i64 l.length)) w) : wpList P ops Q (o :: rest) a w := by
  obtain ⟨es, c, h1, h2, h3, h4⟩ := hm
  have hsz : es.size = l.length := by have := congrArg List.length h2; simpa using this
  refine wpList_ran_w hw ?_ h
  unfold execOp
  simp only [ho, resolve, List.map_toArray, List.map_cons, List.map_nil, hx]
  show (Builtin.len_ #[T] o.type #[.map (some m)] >>= fun v => pure (Next.value v)).run P w = _
  have : (Builtin.len_ #[T] o.type #[.map (some m)]).run P w = .ok (.int .i64 l.length) w := by
    unfold Builtin.len_
    change Sem.run P (Go.underlying T >>= _) w = _
    rw [Sem.run_bind, run_und hT]
    change Sem.run P (Go.getObj m >>= _) w = _
    rw [Sem.run_bind, run_getObj_ob, h1]
    show Result.ok (goInt es.size) w = _
    rw [hsz]; rfl
  rw [Sem.run_bind, this]
  rfl
theorem wpList_look1_w (hw : Region.wanted o (yielded ops a.tmps) = true) (T : TypeId) (x i : Operand) (ho : o.op = .lookup T x i false) (hx : a.eval x = .map (some m)) (k : κ) (hi : a.eval i = enc k)
    (hk : KeyOK P K enc) {E : TypeId} (hT : P.underlying T = some (.map K E)) (d : α) (hz : ∀ w, (zeroValue E).run P w = .ok (ev d) w) (hm : MapIs enc ev w m l)
    (r : α) (hr : (alGet l k).getD d = r)
    (h : wpList P ops Q rest (a.put o.dst (ev r)) w) : wpList P ops Q (o :: rest) a w := by
  subst hr
  refine wpList_ran_w hw ?_ h
  unfold execOp
  simp only [ho, hx, hi]
  rw [Sem.run_bind, run_look hk hT hz hm k false, getD_ev]
  rfl
end
end Go.Proofs.Ytopfknikmhkaeaa
