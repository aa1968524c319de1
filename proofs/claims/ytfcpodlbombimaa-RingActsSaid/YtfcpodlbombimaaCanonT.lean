/- The law of drawn regions with loads beside several appends: the loads come first, then the rest in each of its orders. Conditions: the appends write none of the blocks that the loads read. -/
import Derived.Test.YtfcpodlbombimaaCanonH
namespace Go.Proofs.Ytfcpodlbombimaa
open Go.RowKit
set_option linter.unusedSimpArgs false
set_option linter.unusedVariables false
/-- The blocks qs are as they were in w0; what is new is no view of other memory. -/
structure S2 (qs : List Nat) (w0 w : World) : Prop where
  old : ∀ q ∈ qs, ob w q = ob w0 q
  new : ∀ g, w0.heap.size ≤ g → ∀ a u, ob w g ≠ some (.view a u)
  size : w0.heap.size ≤ w.heap.size
section
variable {P : Program} {α β : Type} {qs : List Nat} {w0 : World}
theorem S2.refl (qs : List Nat) (w : World) : S2 qs w w := ⟨fun _ _ => rfl, fun g hg a u h => by have := ob_lt h; omega, Nat.le_refl _⟩
theorem S2.same {w w' : World} (h : S2 qs w0 w) (e : w'.heap = w.heap) : S2 qs w0 w' := by
  obtain ⟨a, b, c⟩ := h
  exact ⟨fun q hq => by unfold ob; rw [e]; exact a q hq, fun g hg x u => by unfold ob; rw [e]; exact b g hg x u, by rw [e]; exact c⟩
abbrev Kp (P : Program) (qs : List Nat) (w0 : World) {α : Type} (e : Sem α) : Prop := KeepsI P (S2 qs w0) e
theorem Kp.same {e : Sem α} (h : ∀ w a w', e.run P w = .ok a w' → w'.heap = w.heap) : Kp P qs w0 e := fun w a w' hi hr => hi.same (h w a w' hr)
theorem Kp.choose (c : Question) : Kp P qs w0 (Go.choose c) := Kp.same fun w b w' h => by
  unfold Go.choose at h
  simp only [Sem.run] at h
  split at h <;> (cases h; rfl)
theorem Kp.mark (c : Mark) : Kp P qs w0 (Go.mark c) := Kp.same fun w b w' h => by cases h; rfl
theorem Kp.frozen (c : Addr) : Kp P qs w0 (Go.frozen c) := Kp.same fun w b w' h => by cases h; rfl
theorem Kp.shape (c : Nat) : Kp P qs w0 (Go.shape c) := Kp.same fun w b w' h => by cases h; rfl
theorem Kp.newObj (hq : ∀ q ∈ qs, q < w0.heap.size) (o : Obj) (ho : ∀ a u, o ≠ .view a u) : Kp P qs w0 (Go.newObj o) := fun w b w' hi h => by
  cases h
  refine ⟨fun q hm => ?_, fun g hg a u => ?_, ?_⟩
  · show ob (w.alloc o) q = _
    rw [ob_alloc _ _ _ (Nat.lt_of_lt_of_le (hq q hm) hi.size)]
    exact hi.old q hm
  · show ob (w.alloc o) g ≠ _
    rcases Nat.lt_trichotomy g w.heap.size with h1 | h1 | h1
    · rw [ob_alloc _ _ _ h1]; exact hi.new g hg a u
    · rw [ob_newAt _ _ _ h1]; intro h2; cases h2; exact ho a u rfl
    · intro h2; have := ob_lt h2; simp at this; omega
  · show w0.heap.size ≤ (w.alloc o).heap.size
    have := hi.size
    simp; omega
theorem Kp.newRow (hq : ∀ q ∈ qs, q < w0.heap.size) (t : TypeId) (v : Array Value) : Kp P qs w0 (Go.newRow t v) := KeepsI.bind (Kp.newObj hq _ (fun a u h => by cases h)) fun _ => KeepsI.blank (Blank.pure _)
theorem Kp.newVar (hq : ∀ q ∈ qs, q < w0.heap.size) (t : TypeId) (v : Value) : Kp P qs w0 (Go.newVar t v) := Kp.newRow hq _ _
theorem Kp.store (a : Addr) (ha : a.block ∉ qs) (h0 : w0.heap.size ≤ a.block) (v : Value) : Kp P qs w0 (Go.store a v) := fun w b w' hi hr => by
  have key : (Go.store a v).run P w = .ok b w' → w' = w.setCell a v := by
    intro hr
    unfold Go.store at hr
    cases v <;> simp only [Sem.run] at hr <;> try (cases hr; done)
    all_goals
      cases hc : w.cell? a with
      | some u =>
        rw [hc] at hr
        dsimp only at hr
        split at hr
        · cases hr
        · cases hr; rfl
      | none =>
        rw [hc] at hr
        dsimp only at hr
        have hnv := hi.new a.block h0
        unfold ob at hnv
        unfold World.farStore at hr
        split at hr
        · rename_i r he
          split at he
          · rename_i at_ u hh
            exact absurd hh (hnv at_ u)
          · cases he
        · cases hr
  rw [key hr]
  refine ⟨fun q hm => ?_, fun g hg x u => ?_, by simpa using hi.size⟩
  · rw [ob_setCell w a v q (fun e => ha (by rw [← e]; exact hm))]
    exact hi.old q hm
  · by_cases hga : g = a.block
    · intro h2
      have h3 := hi.new a.block h0 x u
      rw [hga] at h2
      unfold ob World.setCell at h2
      unfold ob at h3
      simp only [Array.getElem?_modify, if_true] at h2
      cases h4 : w.heap[a.block]? with
      | none => rw [h4] at h2; cases h2
      | some o =>
        rw [h4] at h2 h3
        simp only [Option.map_some, Option.some.injEq] at h2
        cases o <;> simp at h2 h3
        exact h3 h2.1 h2.2
    · rw [ob_setCell w a v g hga]
      exact hi.new g hg x u
theorem Kp.storeCells (a : Addr) (ha : a.block ∉ qs) (h0 : w0.heap.size ≤ a.block) : ∀ (vs : List Value) (i : Nat), Kp P qs w0 (Go.storeCells a vs i)
  | [], i => KeepsI.blank (Blank.pure _)
  | v :: rest, i => by
    have hb : (a.add i).block = a.block := by unfold Addr.add; split <;> rfl
    unfold Go.storeCells
    exact KeepsI.bind (Kp.store _ (by rw [hb]; exact ha) (by rw [hb]; exact h0) v) fun _ => Kp.storeCells a ha h0 rest (i + 1)
theorem Kp.askRoom (n : Nat) : Kp P qs w0 (Go.askRoom n) := by
  unfold Go.askRoom
  exact KeepsI.ite (Kp.mark _) (KeepsI.blank (Blank.pure _))
theorem Kp.mayShare (a b c : Nat) (d : Option Addr) (x : Value) : Kp P qs w0 (Builtin.mayShare a b c d x) := by
  unfold Builtin.mayShare Builtin.holdsCells
  dsimp only
  repeat' (first
    | exact KeepsI.blank (Blank.pure _)
    | exact Kp.shape _
    | exact Kp.frozen _
    | refine KeepsI.bind ?_ (fun _ => ?_)
    | refine KeepsI.ite ?_ ?_
    | split)
/-- A slice whose own block, if it has one, is new. -/
def FreshS (qs : List Nat) (n0 : Nat) (kv : Value) : Prop := ∃ ao n cap, kv = .slice ao n cap ∧ ∀ a, ao = some a → a.block ∉ qs ∧ n0 ≤ a.block
theorem Kp.append {kv : Value} (hq : ∀ q ∈ qs, q < w0.heap.size) (hkv : FreshS qs w0.heap.size kv) (ts : Array TypeId) (ty : TypeId) (x : Value) :
    Kp P qs w0 (Builtin.append_ ts ty #[kv, x]) := by
  have D : ∀ {α : Type} {e : Sem α}, Dead P e → KeepsI P (S2 qs w0) e := fun h w a w' _ hr => absurd hr (h _ _ _)
  obtain ⟨ao, n, cap, rfl, hsp⟩ := hkv
  unfold Builtin.append_
  split
  case h_2 => exact D (Dead.halt _)
  case h_1 ht =>
  rename_i pr sT s x'
  have hs : s = .slice ao n cap := by simp_all
  subst hs
  refine KeepsI.bind (KeepsI.blank (Blank.underlying _)) fun u => ?_
  split
  case h_2 => exact D (Dead.halt _)
  case h_1 =>
  rename_i elem
  refine KeepsI.bind (KeepsI.blank (Blank.sizeOf elem)) fun size => ?_
  extract_lets jp5 jp0
  have h5 : ∀ u, KeepsI P (S2 qs w0) (jp5 u) := fun u => D (Dead.halt _)
  have h0 : ∀ z, KeepsI P (S2 qs w0) (jp0 z) := by
    intro z
    simp -zeta only [jp0]
    extract_lets jp1
    have h1 : ∀ m, KeepsI P (S2 qs w0) (jp1 m) := by
      intro m
      simp -zeta only [jp1]
      extract_lets appended need jp2 jp4 jp3
      have ha : KeepsI P (S2 qs w0) appended := by
        simp -zeta only [appended]
        refine KeepsI.ite (KeepsI.of_stable (Stable.firstCells _ _ _)) (KeepsI.ite (KeepsI.blank (Blank.pure _)) ?_)
        exact KeepsI.bind (KeepsI.blank (Blank.zeroValue _)) fun _ => KeepsI.blank (Blank.pure _)
      refine KeepsI.ite ?_ ?_
      · refine KeepsI.bind ha fun new => ?_
        have h2 : ∀ u, KeepsI P (S2 qs w0) (jp2 u) := fun u => KeepsI.blank (Blank.pure _)
        split
        · rename_i a
          refine KeepsI.bind ?_ fun u => h2 u
          have hsp' := hsp a rfl
          have hb : ∀ i, (a.add i).block = a.block := fun i => by unfold Addr.add; split <;> rfl
          exact Kp.storeCells _ (by rw [hb]; exact hsp'.1) (by rw [hb]; exact hsp'.2) _ _
        · exact h2 ()
      · refine KeepsI.bind (KeepsI.blank (Blank.typeInfo _)) fun ti => ?_
        have h3 : ∀ u, KeepsI P (S2 qs w0) (jp3 u) := by
          intro u
          simp -zeta only [jp3]
          refine KeepsI.bind (KeepsI.blank (Blank.typeInfo _)) fun ti2 => ?_
          have h4 : ∀ u, KeepsI P (S2 qs w0) (jp4 u) := by
            intro u
            simp -zeta only [jp4]
            refine KeepsI.bind (Kp.choose _) fun nc => ?_
            refine KeepsI.bind (KeepsI.blank (Blank.typeInfo _)) fun ti3 => ?_
            refine KeepsI.bind (Kp.askRoom _) fun _ => ?_
            refine KeepsI.bind (KeepsI.of_stable (Stable.firstCells _ _ _)) fun old => ?_
            refine KeepsI.bind ha fun new => ?_
            refine KeepsI.bind (KeepsI.blank (Blank.zeroValue _)) fun zv => ?_
            extract_lets rest
            exact KeepsI.bind (Kp.newRow hq _ _) fun _ => KeepsI.blank (Blank.pure _)
          refine KeepsI.ite ?_ (h4 ())
          refine KeepsI.bind ?_ fun _ => h4 ()
          refine KeepsI.ite (D (Dead.runtimePanic _)) ?_
          refine KeepsI.bind (Kp.mayShare _ _ _ _ _) fun b => ?_
          exact KeepsI.ite (KeepsI.bind (Kp.mark _) fun _ => h5 ()) (h5 ())
        exact KeepsI.ite (D (Dead.runtimePanic _).bindL) (h3 ())
    refine KeepsI.ite ?_ (KeepsI.bind (KeepsI.blank (Blank.lenOf _)) fun m => h1 m)
    refine KeepsI.bind (KeepsI.blank (Blank.asInt _)) fun i => ?_
    extract_lets l jp7 jp6
    have h6 : ∀ u, KeepsI P (S2 qs w0) (jp6 u) := by
      intro u
      simp -zeta only [jp6]
      refine KeepsI.bind (KeepsI.blank (Blank.typeInfo _)) fun ti => ?_
      have h7 : ∀ u, KeepsI P (S2 qs w0) (jp7 u) := fun u => KeepsI.bind (KeepsI.blank (Blank.pure _)) fun m => h1 m
      exact KeepsI.ite (D (Dead.bind fun _ => (Dead.runtimePanic _).bindL)) (h7 ())
    exact KeepsI.ite (D (Dead.runtimePanic _).bindL) (h6 ())
  split
  · exact KeepsI.bind (KeepsI.blank (Blank.underlying _)) fun u => KeepsI.bind (KeepsI.blank (Blank.pure _)) fun z => h0 z
  · exact KeepsI.bind (KeepsI.blank (Blank.pure _)) fun z => h0 z
theorem Kp.v {e : Sem Value} (h : Kp P qs w0 e) : Kp P qs w0 (e >>= fun v => (Pure.pure (.value v) : Sem Next)) := KeepsI.bind h fun _ => KeepsI.blank (Blank.pure _)
theorem Kp.exec (hq : ∀ q ∈ qs, q < w0.heap.size) {o : Oper} {ρ : Operand → Value} (hk : kind P o = 2) : Kp P qs w0 (execOp ρ o) := by
  obtain ⟨dst, op, type, pos, after, guard⟩ := o
  cases op <;> simp only [kind] at hk <;> try (cases hk; done)
  case fieldAddr s x f =>
    exfalso
    repeat (split at hk <;> try (cases hk; done))
    all_goals (cases hk)
  case convert s x f =>
    exfalso
    split at hk <;> cases hk
  case lookup t x i ok =>
    exfalso
    split at hk
    · split at hk <;> cases hk
    · cases hk
  case alloc t =>
    refine Kp.v ?_
    unfold Instr.alloc
    refine KeepsI.bind (KeepsI.blank (Blank.zeroValue _)) fun z => ?_
    exact KeepsI.bind (Kp.newVar hq _ _) fun _ => KeepsI.blank (Blank.pure _)
  case box t x => exact Kp.v (KeepsI.bind (Kp.newVar hq _ _) fun _ => KeepsI.blank (Blank.pure _))
  case buildSlice t n ps =>
    refine Kp.v ?_
    unfold Instr.buildSlice
    refine KeepsI.bind (KeepsI.blank (Blank.underlying _)) fun u => ?_
    split
    · refine KeepsI.bind (KeepsI.blank (Blank.sizeOf _)) fun n => ?_
      dsimp only
      refine KeepsI.ite (KeepsI.blank (Dead.halt _).bindL.blank) ?_
      refine KeepsI.ite (KeepsI.bind (KeepsI.blank (Blank.pure _)) fun z => ?_) (KeepsI.bind (KeepsI.blank (Blank.zeroValue _)) fun _ => KeepsI.bind (KeepsI.blank (Blank.pure _)) fun z => ?_)
      all_goals
        split
        · exact KeepsI.bind (Kp.newRow hq _ _) fun _ => KeepsI.blank (Blank.pure _)
        · exact KeepsI.blank (Blank.stuck _)
    · exact KeepsI.blank (Blank.stuck _)
  case makeMap t r =>
    refine Kp.v ?_
    unfold Instr.makeMap
    split
    · refine KeepsI.bind (KeepsI.blank (Blank.underlying _)) fun u => ?_
      split
      · exact KeepsI.bind (KeepsI.blank (Blank.asInt _)) fun _ => KeepsI.bind (Kp.newObj hq _ (fun a u h => by cases h)) fun _ => KeepsI.blank (Blank.pure _)
      · exact KeepsI.blank (Dead.halt _).bindL.blank
    · exact KeepsI.bind (Kp.newObj hq _ (fun a u h => by cases h)) fun _ => KeepsI.blank (Blank.pure _)
  case call c =>
    exfalso
    obtain ⟨callee, args, ts⟩ := c
    cases callee <;> try (cases hk; done)
    case builtin b =>
      cases b <;> try (cases hk; done)
      dsimp only at hk
      split at hk <;> cases hk
/-- Each append takes a slice that is new. -/
def appF (qs : List Nat) (n0 : Nat) (ρ : Operand → Value) (o : Oper) : Prop := match o.op with
  | .call c => (match c.callee with
    | .builtin .append => (match c.args[0]? with
      | some s => FreshS qs n0 (ρ s)
      | none => True)
    | _ => True)
  | _ => True
theorem exec_appF (hq : ∀ q ∈ qs, q < w0.heap.size) {o : Oper} {ρ : Operand → Value} (h : isApp o = true) (hk : appF qs w0.heap.size ρ o) : Kp P qs w0 (execOp ρ o) ∧ ValOnly P (execOp ρ o) := by
  obtain ⟨_, s, x, ts, ho⟩ := run_isApp h
  obtain ⟨dst, op, type, pos, after, guard⟩ := o
  dsimp only at ho
  subst ho
  have hs : FreshS qs w0.heap.size (ρ s) := by simpa [appF] using hk
  have e : execOp ρ { dst, op := .call { callee := .builtin .append, args := #[s, x], argTypes := ts }, type, pos, after, guard } = (Builtin.append_ ts type #[ρ s, ρ x] >>= fun v => Pure.pure (Next.value v)) := by
    unfold execOp
    simp only [resolve, List.map_toArray, List.map_cons, List.map_nil]
    rfl
  rw [e]
  exact ⟨KeepsI.bind (Kp.append hq hs _ _ _) fun _ => KeepsI.blank (Blank.pure _), ValOnly.v _⟩
end
section
variable {P : Program} {ops : Array Oper} {K : Act → World → Prop} {anc : Array Nat}
def goodF (qs : List Nat) (n0 : Nat) (ρ : Operand → Value) (o : Oper) : Prop := calm ρ o = true ∧ appF qs n0 ρ o
theorem goodF_congr {qs : List Nat} {n0 : Nat} : ∀ (ρ ρ' : Operand → Value) (o : Oper), (∀ x ∈ o.op.operands, ρ x = ρ' x) → goodF qs n0 ρ o → goodF qs n0 ρ' o := fun ρ ρ' o h hg => by
  refine ⟨by rw [← calm_congr h]; exact hg.1, ?_⟩
  have h2 := hg.2
  obtain ⟨dst, op, type, pos, after, guard⟩ := o
  cases op <;> try exact trivial
  case call c =>
    obtain ⟨callee, args, ts⟩ := c
    cases callee <;> try exact trivial
    case builtin b =>
      cases b <;> try exact trivial
      simp only [appF] at h2 ⊢
      cases hs : args[0]? with
      | none => trivial
      | some s =>
        rw [hs] at h2
        dsimp only at h2 ⊢
        rw [← h s (by simp [Op.operands, Call.operands]; exact Array.mem_of_getElem? hs)]
        exact h2
/-- An operation that yields a value, or a single one. -/
def oneVal (P : Program) (o : Oper) : Bool := decide (kind P o = 1) || decide (kind P o = 2) || isApp o
def tails (i : Nat) (os : List (List Nat)) : List (List Nat) := os.filterMap fun o => match o with
  | j :: t => if j = i then some t else none
  | [] => none
theorem mem_tails {i : Nat} {os : List (List Nat)} {t : List Nat} (h : t ∈ tails i os) : i :: t ∈ os := by
  unfold tails at h
  rw [List.mem_filterMap] at h
  obtain ⟨o, ho, hot⟩ := h
  cases o with
  | nil => cases hot
  | cons j t' =>
    dsimp only at hot
    split at hot
    · rename_i hji
      cases hot
      rw [← hji]; exact ho
    · cases hot
/-- The orders are all that there are. -/
def allB (kinds : Array Bool) (ops : Array Oper) : Nat → Array Bool → List (List Nat) → Bool
  | 0, listed, os => (Region.ready .any ops listed).isEmpty && os.contains []
  | fuel + 1, listed, os =>
    let rs := Region.ready .any ops listed
    if rs.isEmpty then os.contains [] else rs.all fun i => (kinds.getD i false || (tails i os).length == 1) && !(tails i os).isEmpty && allB kinds ops fuel (listed.setIfInBounds i true) (tails i os)
theorem wpOp_forall {i : Nat} {o : Oper} {ι : Type} {C : ι → Act → World → Prop} {a : Act} {w : World} (hi : ops[i]? = some o) (hv : Region.wanted o (yielded ops a.tmps) = true → ValOnly P (execOp a.eval o)) (i0 : ι)
    (h : ∀ x, wpOp P ops (canonPost K) i (C x) a w) : wpOp P ops (canonPost K) i (fun a w => ∀ x, C x a w) a w := by
  unfold wpOp at *
  simp only [hi] at *
  split
  · rename_i hw
    simp only [hw, if_true] at h
    refine .inl ?_
    have h' : ∀ x, Oper.wp P o a w (C x) (canonPost K) := fun x => by
      rcases h x with h | ⟨_, _, _, h⟩
      · exact h
      · exact h.elim
    unfold Oper.wp at *
    cases hr : (execOp a.eval o).run P w with
    | ok n w' =>
      obtain ⟨v, rfl⟩ := hv hw _ _ _ hr
      intro x
      have := h' x
      rw [hr] at this
      exact this
    | halt z w' =>
      have := h' i0
      rw [hr] at this
      cases z <;> simp only [Oper.upon] at this ⊢
      exact this.elim
  · rename_i hw
    simp only [hw] at h
    exact fun x => h x
theorem all_sound (hv : ∀ (i : Nat) o (a : Act), (ops.map (oneVal P)).getD i false = true → ops[i]? = some o → ValOnly P (execOp a.eval o)) :
    ∀ (fuel : Nat) (listed : Array Bool) (os : List (List Nat)) (a : Act) (w : World), allB (ops.map (oneVal P)) ops fuel listed os = true → (∀ o ∈ os, wpOps P ops (canonPost K) o a w) → wpAny P .any ops (canonPost K) fuel listed a w
  | 0, listed, os, a, w, hb, h => by
    simp only [allB, Bool.and_eq_true] at hb
    have h1 : [] ∈ os := by simpa using hb.2
    exact ⟨by simpa using hb.1, by simpa [wpOps] using h [] h1⟩
  | fuel + 1, listed, os, a, w, hb, h => by
    simp only [allB] at hb
    split at hb
    · rename_i hr
      have h1 : [] ∈ os := by simpa using hb
      have hr' : Region.ready .any ops listed = [] := by simpa using hr
      exact ⟨fun _ => by simpa [wpOps] using h [] h1, fun i hi => by rw [hr'] at hi; cases hi⟩
    · rename_i hr
      refine ⟨fun h0 => absurd (by rw [h0]; rfl) hr, fun i hi => ?_⟩
      have hbi := (List.all_eq_true.1 hb) i hi
      simp only [Bool.and_eq_true, Bool.or_eq_true, beq_iff_eq] at hbi
      obtain ⟨⟨hk, hne⟩, hsub⟩ := hbi
      obtain ⟨sub, hs⟩ : ∃ sub, tails i os = sub := ⟨_, rfl⟩
      have hmem : ∀ t ∈ sub, i :: t ∈ os := fun t ht => mem_tails (by rw [hs]; exact ht)
      rw [hs] at hk hne hsub
      have hw : ∀ t : { t // t ∈ sub }, wpOp P ops (canonPost K) i (wpOps P ops (canonPost K) t.1) a w := fun t => by
        have := h _ (hmem t.1 t.2)
        rwa [wpOps_cons] at this
      obtain ⟨t0, ht0⟩ : ∃ t, t ∈ sub := by
        cases hsb : sub with
        | nil => rw [hsb] at hne; cases hne
        | cons x y => exact ⟨x, by simp⟩
      obtain ⟨_, oi, hi', _⟩ := mem_ready.1 hi
      have fin : wpOp P ops (canonPost K) i (fun a w => ∀ t : { t // t ∈ sub }, wpOps P ops (canonPost K) t.1 a w) a w := by
        rcases hk with hk | hk
        · exact wpOp_forall hi' (fun _ => hv i oi a hk hi') ⟨t0, ht0⟩ hw
        · obtain ⟨x, rfl⟩ := List.length_eq_one_iff.1 hk
          refine wpOp_mono (fun a w hx t => ?_) (hw ⟨x, by simp⟩)
          have := t.2
          simp at this
          rw [this]; exact hx
      exact wpOp_mono (fun a w hx => all_sound hv fuel _ sub a w hsub (fun o ho => hx ⟨o, ho⟩)) fin
def preT (P : Program) (ops : Array Oper) (kinds : Array Nat) (anc : Array Nat) (fuel : Nat) (os : List (List Nat)) : List Nat → Array Bool → Bool
  | [], listed => allB (ops.map (oneVal P)) ops fuel listed os && os.all (fun o => o.all fun k => !(listed.getD k true)) && !os.isEmpty
  | i :: pre, listed =>
    (Region.ready .any ops listed).contains i &&
    (kinds.getD i 3 == 0 ||
      (kinds.getD i 3 == 1 && ((ops[i]?).map isLoad).getD false && (List.range ops.size).all fun j => j == i || listed.getD j true || waits anc j i || decide (kinds.getD j 3 ≤ 2) || ((ops[j]?).map isApp).getD false)) &&
    !(listed.getD i true) && preT P ops kinds anc fuel os pre (listed.setIfInBounds i true)
theorem preT_unlisted {kinds : Array Nat} {fuel : Nat} {os : List (List Nat)} : ∀ (pre : List Nat) (listed : Array Bool), preT P ops kinds anc fuel os pre listed = true → ∀ o ∈ os, ∀ k ∈ pre ++ o, listed.getD k true = false
  | [], listed, h, o, ho, k, hk => by
    simp only [preT, Bool.and_eq_true] at h
    have := (List.all_eq_true.1 ((List.all_eq_true.1 h.1.2) o ho)) k (by simpa using hk)
    simpa using this
  | i :: pre, listed, h, o, ho, k, hk => by
    simp only [preT, Bool.and_eq_true] at h
    rcases List.mem_cons.1 hk with rfl | hk
    · exact (mem_ready.1 (by simpa using h.1.1.1)).1
    · exact unlisted_of_set (preT_unlisted pre _ h.2 o ho k hk)
theorem canon_preT (hb : ancB anc ops = true) (hp : pairsB anc ops = true) (hs : Region.noSelect ops = true) {qs : List Nat} {pre0 : List Nat} {fuel : Nat} {os : List (List Nat)} {w : World}
    (hK : ∀ a w', K a w' → calmAll ops a = true ∧ (∀ (i : Nat) (o : Oper), ops[i]? = some o → appF qs w.heap.size a.eval o) ∧ ∀ (i : Nat) (o : Oper), i ∈ pre0 → ops[i]? = some o → loadIn qs a.eval o)
    (hq : ∀ q ∈ qs, ∃ c e f, ob w q = some (.cells c e f)) (hne : os ≠ []) :
    ∀ (pre : List Nat) (listed : Array Bool) (a : Act), (∀ i ∈ pre, i ∈ pre0) → Closed ops listed → preT P ops (ops.map (kind P)) anc fuel os pre listed = true →
      (∀ o ∈ os, wpOps P ops (canonPost K) (pre ++ o) a w) → wpAny P .any ops (canonPost K) (pre.length + fuel) listed a w
  | [], listed, a, _, hc, hpre, h => by
    simp only [preT, Bool.and_eq_true] at hpre
    simp only [List.length_nil, Nat.zero_add]
    refine all_sound (fun i o a hk hi => ?_) fuel listed os a w hpre.1.1 (fun o ho => by simpa using h o ho)
    have hk' : oneVal P o = true := by simpa [Array.getD_eq_getD_getElem?, Array.getElem?_map, hi] using hk
    simp only [oneVal, Bool.or_eq_true, decide_eq_true_eq] at hk'
    rcases hk' with (hk' | hk') | hk'
    · exact (exec_stable hk').2
    · exact (exec_grows hk').2
    · obtain ⟨_, s, x, ts, ho⟩ := run_isApp hk'
      obtain ⟨dst, op, type, pos, after, guard⟩ := o
      dsimp only at ho
      subst ho
      exact ValOnly.v _
  | i :: pre, listed, a, hin, hc, hpre, h => by
    have hpre0 := hpre
    simp only [preT, Bool.and_eq_true, Bool.or_eq_true, beq_iff_eq] at hpre
    obtain ⟨⟨⟨hr0, hcase⟩, _⟩, hrest⟩ := hpre
    have hr : i ∈ Region.ready .any ops listed := by simpa using hr0
    obtain ⟨hun, oi, hi, hall⟩ := mem_ready.1 hr
    have hil := (Array.getElem?_eq_some_iff.1 hi).1
    obtain ⟨o0, ho0⟩ : ∃ o, o ∈ os := by
      cases hos : os with
      | nil => exact absurd hos hne
      | cons x y => exact ⟨x, by simp⟩
    have hsz : ∀ q ∈ qs, q < w.heap.size := fun q hq' => by
      obtain ⟨c, e, f, h⟩ := hq q hq'
      exact ob_lt h
    have IH : ∀ a', (∀ o ∈ os, wpOps P ops (canonPost K) (pre ++ o) a' w) → wpAny P .any ops (canonPost K) (pre.length + fuel) (listed.setIfInBounds i true) a' w :=
      fun a' h' => canon_preT hb hp hs hK hq hne pre _ a' (fun j hj => hin j (by simp [hj])) (closed_set hc hr) hrest h'
    have hx : ∀ o ∈ os, wpOp P ops (canonPost K) i (wpOps P ops (canonPost K) (pre ++ o)) a w := fun o ho => by
      have := h o ho
      rwa [List.cons_append, wpOps_cons] at this
    rw [List.length_cons, show pre.length + 1 + fuel = (pre.length + fuel) + 1 by omega]
    have hG : ∀ a w', K a w' → ∀ (i : Nat) (o : Oper), ops[i]? = some o → Region.wanted o (yielded ops a.tmps) = true → goodF qs w.heap.size a.eval o := fun a w' hk i o hio hw =>
      ⟨calm_of_all hio (hK a w' hk).1 (fun t _ => rfl) hw, (hK a w' hk).2.1 i o hio⟩
    have hcalm : Region.wanted oi (yielded ops a.tmps) = true → goodF qs w.heap.size a.eval oi ∧ loadIn qs a.eval oi := fun hw => by
      have hfree : ∀ t ∈ oi.looksAt ops, ∀ k ∈ i :: (pre ++ o0), ∀ o, ops[k]? = some o → o.dst ≠ some t := fun t ht k hk o hko =>
        looks_free hb hp hc hi hr ht k o hko (preT_unlisted (i :: pre) listed hpre0 o0 ho0 k (by simpa using hk))
      obtain ⟨a', w', h1, h2⟩ := wpOps_gives _ a w (h o0 ho0)
      have e : ∀ t ∈ oi.looksAt ops, a'.tmps[t]? = a.tmps[t]? := fun t ht => h2 t (fun k hk o hko => hfree t ht k (by simpa using hk) o hko)
      exact ⟨goodF_congr _ _ _ (looks_eval e) (hG a' w' h1 i oi hi (by rw [looks_wanted e]; exact hw)), loadIn_congr (looks_eval e) ((hK a' w' h1).2.2 i oi (hin i (by simp)) hi)⟩
    have hx' : ∀ o ∈ os, if Region.wanted oi (yielded ops a.tmps) = true then (Oper.wp P oi a w (wpOps P ops (canonPost K) (pre ++ o)) (canonPost K)) else wpOps P ops (canonPost K) (pre ++ o) (a.put oi.dst undef) w := fun o ho => by
      have := hx o ho
      unfold wpOp at this
      simp only [hi] at this
      split
      · rename_i hw
        rw [if_pos hw] at this
        rcases this with h | ⟨_, _, _, h⟩
        · exact h
        · exact h.elim
      · rename_i hw
        rw [if_neg hw] at this
        exact this
    rcases hcase with hk | ⟨⟨hk, hld⟩, hoth⟩
    · rw [kinds_getD hi] at hk
      have hv : ∃ v, YieldsIf P ops (fun _ => True) oi v a ∧ wpAny P .any ops (canonPost K) (pre.length + fuel) (listed.setIfInBounds i true) (a.put oi.dst v) w := by
        by_cases hw : Region.wanted oi (yielded ops a.tmps) = true
        · obtain ⟨hbl, hvo⟩ := exec_blank hk (hcalm hw).1.1
          cases hrun : (execOp a.eval oi).run P w with
          | ok n w' =>
            obtain ⟨v, rfl⟩ := hvo _ _ _ hrun
            obtain ⟨rfl, hW⟩ := hbl _ _ _ hrun
            refine ⟨v, .inl ⟨hw, fun W _ => hW W⟩, IH _ fun o ho => ?_⟩
            have := hx' o ho
            rw [if_pos hw] at this
            unfold Oper.wp at this
            rw [hrun] at this
            exact this
          | halt x w' =>
            have := hx' o0 ho0
            rw [if_pos hw] at this
            unfold Oper.wp at this
            rw [hrun] at this
            cases x <;> simp only [Oper.upon] at this
            exact this.elim
        · refine ⟨undef, .inr ⟨by simpa using hw, rfl⟩, IH _ fun o ho => ?_⟩
          have := hx' o ho
          rw [if_neg hw] at this
          exact this
      obtain ⟨v, hy, H⟩ := hv
      exact wpAny_firstG (G := goodF qs w.heap.size) hb hp hs goodF_congr hG hi _ listed a w hc (fun j oj hj hne hu hwt a w _ _ C hC => wpOp_mono (fun _ _ h => ⟨trivial, h⟩) hC) hr hy trivial H
    · rw [kinds_getD hi] at hk
      have hgd : oi.guard = none ∧ ∃ t x, oi.op = .load t x := by
        rw [hi] at hld
        simp only [Option.map_some, Option.getD_some, isLoad, Bool.and_eq_true, Option.isNone_iff_eq_none] at hld
        refine ⟨hld.1, ?_⟩
        have h2 := hld.2
        cases ho : oi.op <;> rw [ho] at h2 <;> first | (simp at h2; done) | exact ⟨_, _, rfl⟩
      obtain ⟨hg0, t, x, ho⟩ := hgd
      have hw : Region.wanted oi (yielded ops a.tmps) = true := by simp [Region.wanted, hg0]
      have hli := (hcalm hw).2
      simp only [loadIn, ho] at hli
      have hv : ∃ v, YieldsIf P ops (S2 qs w) oi v a ∧ wpAny P .any ops (canonPost K) (pre.length + fuel) (listed.setIfInBounds i true) (a.put oi.dst v) w := by
        obtain ⟨hbl, hvo⟩ := exec_stable (P := P) (ρ := a.eval) hk
        cases hrun : (execOp a.eval oi).run P w with
        | ok n w' =>
          obtain ⟨v, rfl⟩ := hvo _ _ _ hrun
          obtain ⟨rfl, hW⟩ := hbl _ _ _ hrun
          refine ⟨v, .inl ⟨hw, fun W hS => ?_⟩, IH _ fun o ho => ?_⟩
          · cases hx : a.eval x <;> rw [hx] at hli <;> try (simp at hli; done)
            rename_i ad
            cases ad with
            | none => simp at hli
            | some ad =>
              dsimp only at hli
              obtain ⟨c, e, f, hob⟩ := hq ad.block hli
              have ee : ∀ W, (execOp a.eval oi).run P W = ((Go.loadVar t ad) >>= fun v => Pure.pure (Next.value v)).run P W := fun W => by
                unfold execOp
                simp only [ho, hx]
                rfl
              rw [ee, Sem.run_bind] at hrun ⊢
              obtain ⟨v1, w1, h1, h2⟩ := andThen_ok hrun
              rw [load_at hob (hS.old _ hli) h1]
              cases h2
              rfl
          · have := hx' o ho
            rw [if_pos hw] at this
            unfold Oper.wp at this
            rw [hrun] at this
            exact this
        | halt x w' =>
          have := hx' o0 ho0
          rw [if_pos hw] at this
          unfold Oper.wp at this
          rw [hrun] at this
          cases x <;> simp only [Oper.upon] at this
          exact this.elim
      obtain ⟨v, hy, H⟩ := hv
      refine wpAny_firstG (G := goodF qs w.heap.size) (S := S2 qs w) hb hp hs goodF_congr hG hi _ listed a w hc (fun j oj hj hne hu hwt a1 w1 hS1 hgood C hC => ?_) hr hy (S2.refl qs w) H
      have hjl := (Array.getElem?_eq_some_iff.1 hj).1
      have hkj := (List.all_eq_true.1 hoth) j (List.mem_range.2 hjl)
      simp only [Bool.or_eq_true, beq_iff_eq, hne, hu, hwt, Bool.false_eq_true, false_or, decide_eq_true_eq, hj, Option.map_some, Option.getD_some] at hkj
      rw [kinds_getD hj] at hkj
      refine wpOp_and (S := S2 qs w) hj hS1 (fun hw n w' hrun => ?_) (fun _ _ h => h) (fun _ _ _ h => h) hC
      rcases hkj with hk2 | happ
      · rcases (by omega : kind P oj = 0 ∨ kind P oj = 1 ∨ kind P oj = 2) with h0 | h0 | h0
        · obtain ⟨hbl, hvo⟩ := exec_blank h0 (hgood hw).1
          exact ⟨hvo _ _ _ hrun, by rw [(hbl _ _ _ hrun).1]; exact hS1⟩
        · obtain ⟨hbl, hvo⟩ := exec_stable (P := P) (ρ := a1.eval) h0
          exact ⟨hvo _ _ _ hrun, by rw [(hbl _ _ _ hrun).1]; exact hS1⟩
        · exact ⟨(exec_grows (P := P) (ρ := a1.eval) h0).2 _ _ _ hrun, Kp.exec hsz h0 _ _ _ hS1 hrun⟩
      · obtain ⟨hke, hvo⟩ := exec_appF (P := P) (w0 := w) hsz happ (hgood hw).2
        exact ⟨hvo _ _ _ hrun, hke _ _ _ hS1 hrun⟩
def canonTB (P : Program) (ops : Array Oper) (pre : List Nat) (os : List (List Nat)) : Bool :=
  os.all (fun o => (pre ++ o).all fun i => decide (i < ops.size)) && (Region.noSelect ops && ancB (ancOf ops) ops && pairsB (ancOf ops) ops && decide (pre.length ≤ ops.size) && preT P ops (ops.map (kind P)) (ancOf ops) (ops.size - pre.length) os pre (Array.replicate ops.size false))
/-- **THE LAW**, loads beside appends: pre comes first, then the rest in each of its orders os; the blocks that the loads read are qs; each append's slice is new. -/
theorem wp_region_canonT {l : List Oper} {Q : Exit → Act → World → Prop} {a : Act} {w : World} {id : Nat} (qs : List Nat) (pre : List Nat) (os : List (List Nat)) (hm : P.follows .mixedOrders = true) (hne : os ≠ []) (hchk : canonTB P l.toArray pre os = true)
    (hq : ∀ q ∈ qs, ∃ c e f, ob w q = some (.cells c e f))
    (h : ∀ K : Act → World → Prop, (∀ a w', calmAll l.toArray a = true → (∀ o ∈ l, appF qs w.heap.size a.eval o) → (∀ i ∈ pre, loadIn qs a.eval (l.getD i default)) → Q .normal a w' → K a w') → ∀ o ∈ os, wpList P l.toArray (canonPost K) ((pre ++ o).map (l.getD · default)) a w.drew) :
    (Code.region id l.toArray true).wp P Q a w := by
  simp only [canonTB, Bool.and_eq_true, decide_eq_true_eq] at hchk
  obtain ⟨hin, ⟨⟨⟨h1, h2⟩, h3⟩, hsz⟩, h4⟩ := hchk
  have hl : ∀ o ∈ os, wpOps P l.toArray (canonPost (fun a w' => (calmAll l.toArray a = true ∧ (∀ o ∈ l, appF qs w.heap.size a.eval o) ∧ ∀ i ∈ pre, loadIn qs a.eval (l.getD i default)) ∧ Q .normal a w')) (pre ++ o) a w.drew := fun o ho =>
    wpOps_list (pre ++ o) a w.drew (fun i hi => by simpa using (List.all_eq_true.1 ((List.all_eq_true.1 hin) o ho)) i hi)
      (h (fun a w' => (calmAll l.toArray a = true ∧ (∀ o ∈ l, appF qs w.heap.size a.eval o) ∧ ∀ i ∈ pre, loadIn qs a.eval (l.getD i default)) ∧ Q .normal a w') (fun a w x y z q => ⟨⟨x, y, z⟩, q⟩) o ho)
  have hc : Closed l.toArray (Array.replicate l.toArray.size false) := fun k o ho hk => by
    have hlt := (Array.getElem?_eq_some_iff.1 ho).1
    exfalso
    rw [Array.getD_eq_getD_getElem?, Array.getElem?_replicate, if_pos hlt] at hk
    cases hk
  have hs := canon_preT (P := P) (pre0 := pre) (qs := qs) (w := w.drew) h2 h3 h1 (fun a w h => ⟨h.1.1, fun i o ho => h.1.2.1 o (by
      have := Array.mem_of_getElem? ho
      simpa using this), fun i o hi ho => by
      have h5 := h.1.2.2 i hi
      have : l.getD i default = o := by simp at ho; simp [List.getD_eq_getElem?_getD, ho]
      rw [this] at h5
      exact h5⟩) hq hne pre _ a (fun _ h => h) hc h4 hl
  rw [show pre.length + (l.toArray.size - pre.length) = l.toArray.size by omega] at hs
  refine Code.wp_mono (fun e a w hq => ?_) (wp_region_any hm hs)
  cases e <;> first | exact hq.2 | exact hq.elim
end
#print axioms wp_region_canonT
end Go.Proofs.Ytfcpodlbombimaa
