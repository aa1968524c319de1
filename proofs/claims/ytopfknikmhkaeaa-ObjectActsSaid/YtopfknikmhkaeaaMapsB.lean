/- Maps in memory, as lists of keys and values: the laws at the operations. No conditions. -/
import Derived.Test.YtopfknikmhkaeaaMaps
namespace Go.Proofs.Ytopfknikmhkaeaa
open Go.RowKit
set_option linter.unusedSimpArgs false
set_option linter.unusedVariables false
set_option linter.unusedSectionVars false
section
variable {κ α : Type} [DecidableEq κ]
/-- What a list of keys and values has for a key; with a key set; with a key dropped. -/
def alGet : List (κ × α) → κ → Option α
  | [], _ => none
  | (x, v) :: l, k => if x = k then some v else alGet l k
def alSet : List (κ × α) → κ → α → List (κ × α)
  | [], k, v => [(k, v)]
  | (x, u) :: l, k, v => if x = k then (x, v) :: l else (x, u) :: alSet l k v
def alDel : List (κ × α) → κ → List (κ × α)
  | [], _ => []
  | (x, u) :: l, k => if x = k then l else (x, u) :: alDel l k
theorem al_none : ∀ (l : List (κ × α)) (k : κ), (l.map (·.1)).findIdx? (fun x => decide (x = k)) = none → alGet l k = none ∧ (∀ v, alSet l k v = l ++ [(k, v)]) ∧ alDel l k = l
  | [], k, _ => ⟨rfl, fun _ => rfl, rfl⟩
  | (x, u) :: l, k, h => by
    simp only [List.map_cons, List.findIdx?_cons] at h
    by_cases hx : x = k
    · simp [hx] at h
    · simp only [hx, decide_false, Bool.false_eq_true, if_false, Option.map_eq_none_iff] at h
      obtain ⟨h1, h2, h3⟩ := al_none l k h
      exact ⟨by simp [alGet, hx, h1], fun v => by simp [alSet, hx, h2], by simp [alDel, hx, h3]⟩
theorem al_some : ∀ (l : List (κ × α)) (k : κ) (i : Nat), (l.map (·.1)).findIdx? (fun x => decide (x = k)) = some i →
    (∃ u, l[i]? = some (k, u) ∧ alGet l k = some u) ∧ (∀ v, alSet l k v = l.set i (k, v)) ∧ alDel l k = l.eraseIdx i
  | [], k, i, h => by simp at h
  | (x, u) :: l, k, i, h => by
    simp only [List.map_cons, List.findIdx?_cons] at h
    by_cases hx : x = k
    · subst hx
      simp at h
      subst h
      exact ⟨⟨u, rfl, by simp [alGet]⟩, fun v => by simp [alSet], by simp [alDel]⟩
    · simp only [hx, decide_false, Bool.false_eq_true, if_false, Option.map_eq_some_iff] at h
      obtain ⟨j, hj, rfl⟩ := h
      obtain ⟨⟨u', h1, h2⟩, h3, h4⟩ := al_some l k j hj
      exact ⟨⟨u', by simpa using h1, by simp [alGet, hx, h2]⟩, fun v => by simp [alSet, hx, h3], by simp [alDel, hx, h4]⟩
end

theorem map_erase {α β : Type} (f : α → β) : ∀ (l : List α) (i : Nat), (l.eraseIdx i).map f = (l.map f).eraseIdx i
  | [], _ => rfl
  | _ :: _, 0 => rfl
  | x :: l, i + 1 => by simp [map_erase f l i]
/-- Every entry has a number of its own, below the clock. -/
def Stamps (es : Array MapEntry) (clock : Nat) : Prop := (es.toList.map (·.born)).Nodup ∧ ∀ e ∈ es.toList, e.born < clock
/-- Block m is a map that holds just these keys and values, in this order. -/
def MapIs {κ α : Type} (enc : κ → Value) (ev : α → Value) (w : World) (m : Nat) (l : List (κ × α)) : Prop :=
  ∃ es clock, ob w m = some (.map es clock) ∧ es.toList.map (·.key) = (l.map (·.1)).map enc ∧ es.toList.map (·.val) = (l.map (·.2)).map ev ∧ Stamps es clock
section
variable {P : Program} {κ α : Type} [DecidableEq κ] {K : TypeId} {enc : κ → Value} {ev : α → Value} {w w' : World} {m : Nat} {l : List (κ × α)}
theorem MapIs.lt (h : MapIs enc ev w m l) : m < w.heap.size := let ⟨_, _, h, _⟩ := h; ob_lt h
theorem MapIs.of (h : MapIs enc ev w m l) (ho : ob w' m = ob w m) : MapIs enc ev w' m l := let ⟨es, c, h1, h2⟩ := h; ⟨es, c, ho.trans h1, h2⟩
theorem MapIs.new (w : World) : MapIs enc ev (w.alloc (.map #[] 0)) w.heap.size ([] : List (κ × α)) := ⟨#[], 0, ob_new w _, rfl, rfl, by simp [Stamps]⟩
theorem getD_vals {es : Array MapEntry} (h : es.toList.map (·.val) = (l.map (·.2)).map ev) {i : Nat} {k : κ} {u : α} (hi : l[i]? = some (k, u)) : (es.toList.map (·.val)).getD i undef = ev u := by
  rw [h, List.getD_eq_getElem?_getD]
  simp [hi]
theorem run_look (hk : KeyOK P K enc) {T E : TypeId} (hT : P.underlying T = some (.map K E)) {z : Value} (hz : ∀ w, (zeroValue E).run P w = .ok z w) (h : MapIs enc ev w m l) (k : κ) (b : Bool) :
    (Instr.lookup T (.map (some m)) (enc k) b).run P w = .ok (if b then .tuple #[((alGet l k).map ev).getD z, .bool (alGet l k).isSome] else ((alGet l k).map ev).getD z) w := by
  obtain ⟨es, c, h1, h2, h3, h4⟩ := h
  rw [run_lookup_ob, h1]
  unfold lookR lookIn
  rw [hT]
  dsimp only
  rw [Sem.run_bind, hk.check]
  simp only [Result.andThen]
  rw [Sem.run_bind, hk.find k es.toList _ w h2]
  simp only [Result.andThen]
  cases hf : (l.map (·.1)).findIdx? (fun x => decide (x = k)) with
  | none =>
    rw [(al_none l k hf).1]
    simp only [Option.map_none, Option.getD_none, Option.isSome_none]
    rw [Sem.run_bind, hz]
    rfl
  | some i =>
    obtain ⟨⟨u, hu, hg⟩, _⟩ := al_some l k i hf
    rw [hg]
    simp only [Option.map_some, Option.getD_some, Option.isSome_some, getD_vals h3 hu]
    rfl
theorem stamps_modify {es : Array MapEntry} {c i : Nat} {f : MapEntry → MapEntry} (hf : ∀ e, (f e).born = e.born) (h : Stamps es c) : Stamps (es.modify i f) c := by
  have hm : (es.modify i f).toList.map (·.born) = es.toList.map (·.born) := by
    apply List.ext_getElem?
    intro j
    simp only [List.getElem?_map, Array.getElem?_toList, Array.getElem?_modify]
    split
    · cases es[j]? <;> simp [hf]
    · rfl
  refine ⟨by rw [hm]; exact h.1, fun e he => ?_⟩
  have : e.born ∈ (es.modify i f).toList.map (·.born) := List.mem_map_of_mem he
  rw [hm] at this
  obtain ⟨e', h1, h2⟩ := List.mem_map.1 this
  rw [← h2]; exact h.2 e' h1
theorem stamps_push {es : Array MapEntry} {c : Nat} {k v : Value} (h : Stamps es c) : Stamps (es.push { key := k, val := v, born := c }) (c + 1) := by
  refine ⟨?_, fun e he => ?_⟩
  · simp only [Array.toList_push, List.map_append, List.map_cons, List.map_nil]
    rw [List.nodup_append]
    refine ⟨h.1, by simp, fun a ha b hb => ?_⟩
    obtain ⟨e, he, rfl⟩ := List.mem_map.1 ha
    have := h.2 e he
    simp at hb
    omega
  · simp only [Array.toList_push, List.mem_append, List.mem_singleton] at he
    rcases he with he | he
    · have := h.2 e he; omega
    · subst he; simp
theorem stamps_erase {es : Array MapEntry} {c i : Nat} (h : Stamps es c) : Stamps (es.eraseIdxIfInBounds i) c := by
  have hs : (es.eraseIdxIfInBounds i).toList.Sublist es.toList := by
    rw [Array.toList_eraseIdxIfInBounds]; exact List.eraseIdx_sublist _ _
  exact ⟨h.1.sublist (hs.map _), fun e he => h.2 e (hs.subset he)⟩
theorem run_upd (hk : KeyOK P K enc) {T E : TypeId} (hT : P.underlying T = some (.map K E)) (h : MapIs enc ev w m l) (k : κ) (v : α) :
    ∃ o, (Instr.mapUpdate T (.map (some m)) (enc k) (ev v)).run P w = .ok () (putOb w m o) ∧ MapIs enc ev (putOb w m o) m (alSet l k v) := by
  obtain ⟨es, c, h1, h2, h3, h4⟩ := h
  have hsz : es.size = l.length := by have := congrArg List.length h2; simpa using this
  rw [run_update_ob, h1]
  unfold updR
  rw [hT]
  dsimp only
  rw [Sem.run_bind, hk.check]
  simp only [Result.andThen]
  rw [Sem.run_bind, hk.find k es.toList _ w h2]
  simp only [Result.andThen]
  cases hf : (l.map (·.1)).findIdx? (fun x => decide (x = k)) with
  | none =>
    refine ⟨.map (es.push { key := enc k, val := ev v, born := c }) (c + 1), ?_, ?_⟩
    · simp only [Option.map_none]
      exact run_setObj_map m w h1 _
    · rw [(al_none l k hf).2.1]
      exact ⟨_, _, ob_putOb_same h1, by simp [h2], by simp [h3], stamps_push h4⟩
  | some i =>
    obtain ⟨⟨u, hu, hg⟩, hs, _⟩ := al_some l k i hf
    have hil : i < l.length := (List.getElem?_eq_some_iff.1 hu).1
    have hie : i < es.size := by omega
    have hkey : ((es[i]?).map (·.key)).getD (enc k) = enc k := by
      have : (es.toList.map (·.key))[i]? = some (enc k) := by rw [h2]; simp [hu]
      simp only [List.getElem?_map, Array.getElem?_toList] at this
      rw [this]; rfl
    refine ⟨.map (es.modify i fun e => { e with key := enc k, val := ev v }) c, ?_, ?_⟩
    · simp only [Option.map_some, hkey]
      rw [Sem.run_bind]
      have : (Instr.keyThatStays (enc k) (enc k)).run P w = .ok (enc k) w := by
        unfold Instr.keyThatStays
        rw [if_pos (hk.bits k)]; rfl
      rw [this]
      exact run_setObj_map m w h1 _
    · rw [hs]
      have e1 : ∀ (g : MapEntry → Value) (x : Value) (ys : List Value), (∀ e : MapEntry, g { e with key := enc k, val := ev v } = x) → es.toList.map g = ys →
          (es.modify i fun e => { e with key := enc k, val := ev v }).toList.map g = ys.set i x := by
        intro g x ys hgx hys
        subst hys
        apply List.ext_getElem?
        intro j
        simp only [List.getElem?_map, Array.getElem?_toList, Array.getElem?_modify, List.getElem?_set]
        by_cases hj : i = j
        · subst hj
          simp [hie, hgx]
        · simp [hj]
      refine ⟨_, _, ob_putOb_same h1, ?_, ?_, stamps_modify (fun _ => rfl) h4⟩
      · rw [e1 _ (enc k) _ (fun _ => rfl) h2, List.map_set, List.map_set]
      · rw [e1 _ (ev v) _ (fun _ => rfl) h3, List.map_set, List.map_set]
theorem run_del (hk : KeyOK P K enc) {T E U ty : TypeId} (hT : P.underlying T = some (.map K E)) (h : MapIs enc ev w m l) (k : κ) :
    ∃ o, (Builtin.delete_ #[T, U] ty #[.map (some m), enc k]).run P w = .ok (.tuple #[]) (putOb w m o) ∧ MapIs enc ev (putOb w m o) m (alDel l k) := by
  obtain ⟨es, c, h1, h2, h3, h4⟩ := h
  rw [run_delete_ob, h1]
  unfold delR
  rw [hT]
  dsimp only
  rw [Sem.run_bind, hk.check]
  simp only [Result.andThen]
  rw [Sem.run_bind, hk.find k es.toList _ w h2]
  simp only [Result.andThen]
  cases hf : (l.map (·.1)).findIdx? (fun x => decide (x = k)) with
  | none =>
    refine ⟨.map es c, ?_, ?_⟩
    · simp only [Option.map_none]
      rw [Sem.run_bind, run_setObj_map m w h1 _]; rfl
    · rw [(al_none l k hf).2.2]
      exact ⟨_, _, ob_putOb_same h1, h2, h3, h4⟩
  | some i =>
    obtain ⟨_, _, hs⟩ := al_some l k i hf
    refine ⟨.map (es.eraseIdxIfInBounds i) c, ?_, ?_⟩
    · simp only [Option.map_some]
      rw [Sem.run_bind, run_setObj_map m w h1 _]; rfl
    · rw [hs]
      refine ⟨_, _, ob_putOb_same h1, ?_, ?_, stamps_erase h4⟩
      · rw [Array.toList_eraseIdxIfInBounds, map_erase, h2, map_erase, map_erase]
      · rw [Array.toList_eraseIdxIfInBounds, map_erase, h3, map_erase, map_erase]
section
variable {ops : Array Oper} {Q : Exit → Act → World → Prop} {a : Act} {rest : List Oper} {o : Oper}
theorem wpList_ran {v : Value} {w1 : World} (hg : o.guard = none) (hrun : (execOp a.eval o).run P w = .ok (.value v) w1) (h : wpList P ops Q rest (a.put o.dst v) w1) : wpList P ops Q (o :: rest) a w := by
  refine wpList_plain hg fun K hK => ?_
  unfold Oper.wp
  rw [hrun]
  exact hK _ _ h
theorem wpList_ran_skip {w1 : World} (hg : o.guard = none) (hrun : (execOp a.eval o).run P w = .ok .skip w1) (h : wpList P ops Q rest (a.put o.dst undef) w1) : wpList P ops Q (o :: rest) a w := by
  refine wpList_plain hg fun K hK => ?_
  unfold Oper.wp
  rw [hrun]
  exact hK _ _ h
theorem getD_ev (d : α) (x : Option α) : (x.map ev).getD (ev d) = ev (x.getD d) := by cases x <;> rfl
theorem wpList_look2 (hg : o.guard = none) (T : TypeId) (x i : Operand) (ho : o.op = .lookup T x i true) (hx : a.eval x = .map (some m)) (k : κ) (hi : a.eval i = enc k)
    (hk : KeyOK P K enc) {E : TypeId} (hT : P.underlying T = some (.map K E)) (d : α) (hz : ∀ w, (zeroValue E).run P w = .ok (ev d) w) (hm : MapIs enc ev w m l)
    (r : α) (ok : Bool) (hr : (alGet l k).getD d = r) (hok : (alGet l k).isSome = ok)
    (h : wpList P ops Q rest (a.put o.dst (.tuple #[ev r, .bool ok])) w) : wpList P ops Q (o :: rest) a w := by
  subst hr; subst hok
  refine wpList_ran hg ?_ h
  unfold execOp
  simp only [ho, hx, hi]
  rw [Sem.run_bind, run_look hk hT hz hm k true, getD_ev]
  rfl
theorem wpList_look1 (hg : o.guard = none) (T : TypeId) (x i : Operand) (ho : o.op = .lookup T x i false) (hx : a.eval x = .map (some m)) (k : κ) (hi : a.eval i = enc k)
    (hk : KeyOK P K enc) {E : TypeId} (hT : P.underlying T = some (.map K E)) (d : α) (hz : ∀ w, (zeroValue E).run P w = .ok (ev d) w) (hm : MapIs enc ev w m l)
    (r : α) (hr : (alGet l k).getD d = r)
    (h : wpList P ops Q rest (a.put o.dst (ev r)) w) : wpList P ops Q (o :: rest) a w := by
  subst hr
  refine wpList_ran hg ?_ h
  unfold execOp
  simp only [ho, hx, hi]
  rw [Sem.run_bind, run_look hk hT hz hm k false, getD_ev]
  rfl
theorem wpList_upd (hg : o.guard = none) (T : TypeId) (x i y : Operand) (ho : o.op = .mapUpdate T x i y) (hx : a.eval x = .map (some m)) (k : κ) (hi : a.eval i = enc k) (v : α) (hy : a.eval y = ev v)
    (hk : KeyOK P K enc) {E : TypeId} (hT : P.underlying T = some (.map K E)) (hm : MapIs enc ev w m l)
    (h : ∀ b, MapIs enc ev (putOb w m b) m (alSet l k v) → wpList P ops Q rest (a.put o.dst undef) (putOb w m b)) : wpList P ops Q (o :: rest) a w := by
  obtain ⟨b, hr, hm'⟩ := run_upd hk hT hm k v
  refine wpList_ran_skip hg ?_ (h b hm')
  unfold execOp
  simp only [ho, hx, hi, hy]
  rw [Sem.run_bind, hr]
  rfl
theorem wpList_del (hg : o.guard = none) (T U : TypeId) (x i : Operand) (ho : o.op = .call { callee := .builtin .delete, args := #[x, i], argTypes := #[T, U] }) (hx : a.eval x = .map (some m)) (k : κ) (hi : a.eval i = enc k)
    (hk : KeyOK P K enc) {E : TypeId} (hT : P.underlying T = some (.map K E)) (hm : MapIs enc ev w m l)
    (h : ∀ b, MapIs enc ev (putOb w m b) m (alDel l k) → wpList P ops Q rest (a.put o.dst (.tuple #[])) (putOb w m b)) : wpList P ops Q (o :: rest) a w := by
  obtain ⟨b, hr, hm'⟩ := run_del (U := U) (ty := o.type) hk hT hm k
  refine wpList_ran hg ?_ (h b hm')
  unfold execOp
  simp only [ho, resolve, List.map_toArray, List.map_cons, List.map_nil, hx, hi]
  show (Builtin.delete_ #[T, U] o.type #[.map (some m), enc k] >>= fun v => pure (Next.value v)).run P w = _
  rw [Sem.run_bind, hr]
  rfl
theorem wpList_maplen (hg : o.guard = none) (T E : TypeId) (x : Operand) (ho : o.op = .call { callee := .builtin .len, args := #[x], argTypes := #[T] }) (hx : a.eval x = .map (some m))
    (hT : P.underlying T = some (.map K E)) (hm : MapIs enc ev w m l)
    (h : wpList P ops Q rest (a.put o.dst (.int .i64 l.length)) w) : wpList P ops Q (o :: rest) a w := by
  obtain ⟨es, c, h1, h2, h3, h4⟩ := hm
  have hsz : es.size = l.length := by have := congrArg List.length h2; simpa using this
  refine wpList_ran hg ?_ h
  unfold execOp
  simp only [ho, resolve, List.map_toArray, List.map_cons, List.map_nil, hx]
  show (Builtin.len_ #[T] o.type #[.map (some m)] >>= fun v => pure (Next.value v)).run P w = _
  have : (Builtin.len_ #[T] o.type #[.map (some m)]).run P w = .ok (.int .i64 l.length) w := by
    unfold Builtin.len_
    change Sem.run P (Go.underlying T >>= _) w = _
    rw [Sem.run_bind, run_und hT]
    change Sem.run P (Go.getObj m >>= _) w = _
    rw [Sem.run_bind, run_getObj_ob, h1]
    show Result.ok (goInt es.size) w = _
    rw [hsz]; rfl
  rw [Sem.run_bind, this]
  rfl
end
end
end Go.Proofs.Ytopfknikmhkaeaa
