/- An entry more in a right list: the plain law. No conditions. -/
import Derived.Test.YtopglbkcciigbaaEnFindR
namespace Go.Proofs.Ytopglbkcciigbaa
set_option linter.unusedSimpArgs false
set_option linter.unusedVariables false
def freeB (l : List Ent) (e : Ent) : Bool := match l[fidx l e.s]? with | some x => decide (e.e ≤ x.s) | none => true
def insOk (l : List Ent) (e : Ent) : Bool := goodB e && freeB l e
def insAt (l : List Ent) (e : Ent) : List Ent := l.take (fidx l e.s) ++ e :: l.drop (fidx l e.s)
def insL (l : List Ent) (e : Ent) : List Ent := if insOk l e then insAt l e else l
def apart (e x : Ent) : Bool := decide (x.e ≤ e.s) || decide (e.e ≤ x.s)
theorem fidx_skip {x : Ent} {l : List Ent} {p : Int} (h : x.e ≤ p) : fidx (x :: l) p = fidx l p + 1 := by unfold fidx; rw [List.takeWhile_cons, if_pos (by simpa using h)]; rfl
theorem fidx_stop {x : Ent} {l : List Ent} {p : Int} (h : ¬ x.e ≤ p) : fidx (x :: l) p = 0 := by unfold fidx; rw [List.takeWhile_cons, if_neg (by simpa using h)]; rfl
theorem freeB_all {e : Ent} (he : e.s < e.e) : ∀ {l : List Ent} {last : Int}, rightB last l = true → freeB l e = l.all (apart e)
  | [], _, _ => rfl
  | x :: l, last, h => by
    rw [rightB_cons] at h
    have hx := goodE_of h.1
    by_cases hp : x.e ≤ e.s
    · have ih := freeB_all he h.2.2
      unfold freeB at ih ⊢
      rw [fidx_skip hp, List.getElem?_cons_succ, ih, List.all_cons]
      have : apart e x = true := by unfold apart; simp [hp]
      rw [this]; rfl
    · unfold freeB
      rw [fidx_stop hp]
      show decide (e.e ≤ x.s) = _
      rw [List.all_cons]
      have h1 : apart e x = decide (e.e ≤ x.s) := by unfold apart; rw [decide_eq_false hp]; rfl
      rw [h1]
      by_cases hq : e.e ≤ x.s
      · have : l.all (apart e) = true := by
          rw [List.all_eq_true]
          intro y hy
          have := (rightB_mem h.2.2 y hy).2
          have := hx.se
          unfold apart
          rw [decide_eq_true (show e.e ≤ y.s by omega)]; simp
        rw [this]; simp
      · rw [decide_eq_false hq]; rfl
theorem right_ins {e : Ent} (hg : goodB e = true) : ∀ {l : List Ent} {last : Int}, rightB last l = true → last ≤ e.s → freeB l e = true → rightB last (insAt l e) = true
  | [], last, _, hl, _ => by
    show rightB last [e] = true
    rw [rightB_cons]; exact ⟨hg, hl, rfl⟩
  | x :: l, last, h, hl, hf => by
    rw [rightB_cons] at h
    by_cases hp : x.e ≤ e.s
    · have hf' : freeB l e = true := by
        unfold freeB at hf ⊢
        rw [fidx_skip hp, List.getElem?_cons_succ] at hf
        exact hf
      have ih := right_ins hg h.2.2 hp hf'
      have : insAt (x :: l) e = x :: insAt l e := by unfold insAt; rw [fidx_skip hp]; rfl
      rw [this, rightB_cons]
      exact ⟨h.1, h.2.1, ih⟩
    · have hq : e.e ≤ x.s := by
        unfold freeB at hf
        rw [fidx_stop hp] at hf
        simpa using hf
      have : insAt (x :: l) e = e :: x :: l := by unfold insAt; rw [fidx_stop hp]; rfl
      rw [this, rightB_cons, rightB_cons]
      exact ⟨hg, hl, h.1, hq, h.2.2⟩
theorem ins_find {e : Ent} (he : e.s < e.e) (l : List Ent) : fidx (insAt l e) e.s = fidx l e.s ∧ (insAt l e)[fidx l e.s]? = some e := by
  have hfl := fidx_le l e.s
  have hlt : (l.take (fidx l e.s)).length = fidx l e.s := by rw [List.length_take]; omega
  have hat : (insAt l e)[fidx l e.s]? = some e := by
    unfold insAt
    rw [List.getElem?_append_right (by omega), hlt, Nat.sub_self]; rfl
  refine ⟨fidx_of _ _ _ ?_ (fun t x ht hx => ?_) (fun x hx => ?_), hat⟩
  · unfold insAt; simp; omega
  · unfold insAt at hx
    rw [List.getElem?_append_left (by omega), List.getElem?_take, if_pos ht] at hx
    exact fidx_below l e.s t x ht hx
  · rw [hat] at hx; cases hx; exact he
theorem insAt_len (l : List Ent) (e : Ent) : (insAt l e).length = l.length + 1 := by
  have hfl := fidx_le l e.s
  unfold insAt; simp; omega
theorem insAt_mem {l : List Ent} {e x : Ent} (h : x ∈ insAt l e) : x = e ∨ x ∈ l := by
  unfold insAt at h
  rcases List.mem_append.1 h with h | h
  · exact .inr (List.mem_of_mem_take h)
  · rcases List.mem_cons.1 h with h | h
    · exact .inl h
    · exact .inr (List.mem_of_mem_drop h)
theorem insL_len (l : List Ent) (e : Ent) : (insL l e).length ≤ l.length + 1 := by
  unfold insL
  split
  · rw [insAt_len]; omega
  · omega
theorem right_insL {l : List Ent} {e : Ent} (h : rightB 0 l = true) : rightB 0 (insL l e) = true := by
  unfold insL
  split
  · rename_i hc
    unfold insOk at hc
    rw [Bool.and_eq_true] at hc
    exact right_ins hc.1 h (goodE_of hc.1).s0 hc.2
  · exact h
end Go.Proofs.Ytopglbkcciigbaa
