/- A region that draws its order comes to its post in every order if it does in one that the check allows. Conditions: the post admits no panic and nothing outgrown. -/
import Derived.Test.YtopfknikmhkaeaaCanonD
namespace Go.Proofs.Ytopfknikmhkaeaa
open Go.RowKit
set_option linter.unusedSimpArgs false
set_option linter.unusedVariables false

def canonPost (K : Act → World → Prop) : Exit → Act → World → Prop
  | .normal, a, w => K a w
  | _, _, _ => False

/-- For each operation, as the bits of a number, those that must come before it. -/
def ancOf (ops : Array Oper) : Array Nat :=
  ops.foldl (fun (t : Array Nat) o => t.push (o.after.foldl (fun m e => if Region.binds .any e then m ||| (1 <<< e.on) ||| t.getD e.on 0 else m) 0)) #[]
def waits (anc : Array Nat) (j i : Nat) : Bool := (anc.getD j 0).testBit i
def ancB (anc : Array Nat) (ops : Array Oper) : Bool :=
  (List.range ops.size).all fun j => (List.range ops.size).all fun i => !waits anc j i ||
    match ops[j]? with
    | some o => o.after.any fun e => Region.binds .any e && decide (e.on < j) && (e.on == i || waits anc e.on i)
    | none => false
/-- What every pair owes: apart, or one waits for the other; whoever is looked at comes first. -/
def pairsB (anc : Array Nat) (ops : Array Oper) : Bool :=
  (List.range ops.size).all fun i => (List.range ops.size).all fun j =>
    match ops[i]?, ops[j]? with
    | some oi, some oj =>
      (i == j || waits anc j i || waits anc i j || oi.apart ops oj) &&
      (match oj.dst with
        | some d => !(oi.looksAt ops).contains d || waits anc i j
        | none => true)
    | _, _ => false
def orderB (kinds : Array Nat) (anc : Array Nat) (ops : Array Oper) : List Nat → Array Bool → Bool
  | [], listed => (Region.ready .any ops listed).isEmpty
  | i :: rest, listed =>
    (Region.ready .any ops listed).contains i &&
    (Region.ready .any ops listed == [i] || kinds.getD i 3 == 0 ||
      (kinds.getD i 3 == 1 && (List.range ops.size).all fun j => j == i || listed.getD j true || waits anc j i || decide (kinds.getD j 3 ≤ 2))) &&
    orderB kinds anc ops rest (listed.setIfInBounds i true)
def canonB (P : Program) (ops : Array Oper) (order : List Nat) : Bool :=
  order.all (fun i => decide (i < ops.size)) && (order.length == ops.size && Region.noSelect ops && ancB (ancOf ops) ops && pairsB (ancOf ops) ops && orderB (ops.map (kind P)) (ancOf ops) ops order (Array.replicate ops.size false))
/-- Behind the region each operation that was wanted has operands that fit its kind. -/
def calmAll (ops : Array Oper) (a : Act) : Bool := ops.all fun o => !(Region.wanted o (yielded ops a.tmps)) || calm a.eval o

section
variable {P : Program} {ops : Array Oper} {K : Act → World → Prop} {anc : Array Nat}
def Closed (ops : Array Oper) (listed : Array Bool) : Prop :=
  ∀ k o, ops[k]? = some o → listed.getD k true = true → ∀ e ∈ o.after, Region.binds .any e = true → listed.getD e.on false = true
theorem getD_both' {listed : Array Bool} {i : Nat} (h : listed.getD i false = true) : listed.getD i true = true := by
  rcases Nat.lt_or_ge i listed.size with h' | h'
  · simp [h'] at h ⊢; exact h
  · simp [Array.getElem?_eq_none h'] at h
theorem anc_spec (hb : ancB anc ops = true) {j i : Nat} {o : Oper} (hj : ops[j]? = some o) (hi : i < ops.size) (hw : waits anc j i = true) :
    ∃ e ∈ o.after, Region.binds .any e = true ∧ e.on < j ∧ (e.on = i ∨ waits anc e.on i = true) := by
  unfold ancB at hb
  rw [List.all_eq_true] at hb
  have h1 := hb j (List.mem_range.2 (Array.getElem?_eq_some_iff.1 hj).1)
  rw [List.all_eq_true] at h1
  have h2 := h1 i (List.mem_range.2 hi)
  simp only [hw, Bool.not_true, Bool.false_or, hj] at h2
  obtain ⟨e, he, hb⟩ := Array.any_eq_true'.1 h2
  simp only [Bool.and_eq_true, decide_eq_true_eq, Bool.or_eq_true, beq_iff_eq] at hb
  exact ⟨e, he, hb.1.1, hb.1.2, hb.2⟩
/-- Whoever is waited for by one that may come up has come up. -/
theorem listed_of_waits (hb : ancB anc ops = true) {listed : Array Bool} (hc : Closed ops listed) {i : Nat} (hi : i < ops.size) :
    ∀ (j : Nat) (o : Oper), ops[j]? = some o → (∀ e ∈ o.after, Region.binds .any e = true → listed.getD e.on false = true) → waits anc j i = true → listed.getD i false = true := by
  intro j
  induction j using Nat.strongRecOn with
  | _ j ih =>
    intro o hj hall hw
    obtain ⟨e, he, hbe, hlt, h⟩ := anc_spec hb hj hi hw
    have hl := hall e he hbe
    rcases h with h | h
    · rw [← h]; exact hl
    · cases hoe : ops[e.on]? with
      | none =>
        exfalso
        have := (Array.getElem?_eq_some_iff.1 hj).1
        have h2 := Array.getElem?_eq_none_iff.1 hoe
        omega
      | some oe => exact ih e.on hlt oe hoe (hc e.on oe hoe (getD_both' hl)) h
theorem not_waits (hb : ancB anc ops = true) {listed : Array Bool} (hc : Closed ops listed) {i j : Nat} (hi : i < ops.size) (hun : listed.getD i true = false)
    (hj : j ∈ Region.ready .any ops listed) : waits anc j i = false := by
  obtain ⟨_, o, ho, hall⟩ := mem_ready.1 hj
  cases hw : waits anc j i with
  | false => rfl
  | true =>
    have := listed_of_waits hb hc hi j o ho hall hw
    rw [getD_both' this] at hun
    cases hun
theorem closed_set {listed : Array Bool} (hc : Closed ops listed) {i : Nat} (hi : i ∈ Region.ready .any ops listed) : Closed ops (listed.setIfInBounds i true) := by
  intro k o ho hk e he hbe
  obtain ⟨hun, oi, hoi, hall⟩ := mem_ready.1 hi
  by_cases hki : k = i
  · subst hki
    rw [hoi] at ho; cases ho
    exact getD_set_true (hall e he hbe)
  · rw [getD_set_ne true (Ne.symm hki)] at hk
    exact getD_set_true (hc k o ho hk e he hbe)

theorem put_tmps {a : Act} {dst : Option Tmp} {v : Value} {t : Nat} (h : dst ≠ some t) : (a.put dst v).tmps[t]? = a.tmps[t]? := by
  cases dst with
  | none => rfl
  | some d => simp [Act.put, Array.getElem?_setIfInBounds_ne (fun e : d = t => h (by rw [e]))]
/-- An operation that comes to its post leaves, at some state, what is to come; all slots but its own stand. -/
theorem wpOp_gives {i : Nat} {o : Oper} {C K : Act → World → Prop} {a : Act} {w : World} (hi : ops[i]? = some o) (h : wpOp P ops (canonPost K) i C a w) :
    ∃ a1 w1, C a1 w1 ∧ ∀ t, o.dst ≠ some t → a1.tmps[t]? = a.tmps[t]? := by
  unfold wpOp at h
  simp only [hi] at h
  split at h
  · rcases h with h | ⟨_, _, _, h⟩
    · unfold Oper.wp at h
      generalize (execOp a.eval o).run P w = r at h
      cases r with
      | ok n w' =>
        cases n <;> simp only [Oper.upon] at h
        case value v => exact ⟨_, _, h, fun t ht => put_tmps ht⟩
        case skip => exact ⟨_, _, h, fun t ht => put_tmps ht⟩
        case defer d => exact ⟨_, _, h, fun t ht => put_tmps ht⟩
        case enter f args =>
          obtain ⟨e, w'', fr, hR, _⟩ := h []
          cases e with
          | returned v => exact ⟨_, _, hR, fun t ht => put_tmps ht⟩
          | panicked c => exact hR.elim
          | outgrown => obtain ⟨_, _, hR⟩ := hR; exact hR.elim
        case row row args =>
          obtain ⟨v, w'', hR, _⟩ := h default []
          exact ⟨_, _, hR, fun t ht => put_tmps ht⟩
      | halt x w' =>
        cases x <;> simp only [Oper.upon] at h
        exact h.elim
    · exact h.elim
  · exact ⟨_, _, h, fun t ht => put_tmps ht⟩
/-- Some run comes to the end; slots that nobody still writes stand. -/
theorem wpAny_gives : ∀ (fuel : Nat) (listed : Array Bool) (a : Act) (w : World), wpAny P .any ops (canonPost K) fuel listed a w →
    ∃ a' w', K a' w' ∧ ∀ t, (∀ k o, ops[k]? = some o → listed.getD k true = false → o.dst ≠ some t) → a'.tmps[t]? = a.tmps[t]?
  | 0, listed, a, w, h => ⟨a, w, h.2, fun _ _ => rfl⟩
  | fuel + 1, listed, a, w, h => by
    cases hr : Region.ready .any ops listed with
    | nil => exact ⟨a, w, h.1 hr, fun _ _ => rfl⟩
    | cons i rs =>
      have hi : i ∈ Region.ready .any ops listed := by rw [hr]; simp
      obtain ⟨hun, o, ho, _⟩ := mem_ready.1 hi
      obtain ⟨a1, w1, h1, h2⟩ := wpOp_gives ho (h.2 i hi)
      obtain ⟨a', w', h3, h4⟩ := wpAny_gives fuel _ a1 w1 h1
      refine ⟨a', w', h3, fun t ht => ?_⟩
      rw [h4 t fun k ok hk hku => ?_, h2 t (ht i o ho hun)]
      refine ht k ok hk ?_
      by_cases hki : i = k
      · subst hki; exact hun
      · rw [getD_set_ne true hki] at hku; exact hku
theorem calm_congr {ρ ρ' : Operand → Value} {o : Oper} (h : ∀ x ∈ o.op.operands, ρ x = ρ' x) : calm ρ o = calm ρ' o := by
  obtain ⟨dst, op, type, pos, after, guard⟩ := o
  cases op <;> simp only [calm] <;> simp only [Op.operands] at h
  case binOp => rw [h _ (by simp), h _ (by simp)]
  case nilCheck => rw [h _ (by simp)]
  case convert => rw [h _ (by simp)]
theorem looks_eval {a a' : Act} {o : Oper} (h : ∀ t ∈ o.looksAt ops, a'.tmps[t]? = a.tmps[t]?) : ∀ x ∈ o.op.operands, a'.eval x = a.eval x := by
  intro x hx
  cases x with
  | tmp t =>
    have := h t (List.mem_append_left _ (List.mem_filterMap.2 ⟨.tmp t, by simpa using hx, rfl⟩))
    simp only [Act.eval, Array.getD_eq_getD_getElem?, this]
  | _ => rfl
theorem looks_wanted {a a' : Act} {o : Oper} (h : ∀ t ∈ o.looksAt ops, a'.tmps[t]? = a.tmps[t]?) : Region.wanted o (yielded ops a'.tmps) = Region.wanted o (yielded ops a.tmps) := by
  unfold Region.wanted
  cases hg : o.guard with
  | none => rfl
  | some gw =>
    obtain ⟨g, want⟩ := gw
    have hy : yielded ops a'.tmps g = yielded ops a.tmps g := by
      unfold yielded
      cases ht : (ops[g]?).bind (·.dst) with
      | none => rfl
      | some t =>
        have := h t (by simp [Oper.looksAt, hg, ht])
        simp [this]
    simp only [hy]
theorem calm_of_all {a a' : Act} {o : Oper} {i : Nat} (hi : ops[i]? = some o) (hall : calmAll ops a' = true) (h : ∀ t ∈ o.looksAt ops, a'.tmps[t]? = a.tmps[t]?)
    (hw : Region.wanted o (yielded ops a.tmps) = true) : calm a.eval o = true := by
  unfold calmAll at hall
  have h1 := Array.all_eq_true_iff_forall_mem.1 hall o (Array.mem_of_getElem? hi)
  rw [looks_wanted h, hw] at h1
  simp only [Bool.not_true, Bool.false_or] at h1
  rw [← calm_congr (looks_eval h)]
  exact h1
end
end Go.Proofs.Ytopfknikmhkaeaa
