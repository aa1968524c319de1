/- The kinds of operations in a region, and what is owed for each. No conditions. -/
import Derived.Test.YtopfknikmhkaeaaCanonC
import Derived.OrdersHeld
namespace Go.Proofs.Ytopfknikmhkaeaa
open Go.RowKit
set_option linter.unusedSimpArgs false
set_option linter.unusedVariables false
def kind (P : Program) (o : Oper) : Nat :=
  match o.op with
  | .move _ | .assign _ | .pick _ _ _ | .extract _ _ | .field _ _ _ | .index _ _ _ | .unOp _ _ _ | .makeFunc _ _ _ | .indexAddr _ _ _ | .slice _ _ _ _ _ | .binOp _ _ _ _ _ | .nilCheck _ | .build _ _ => 0
  | .fieldAddr s _ f => match P.underlying s with
    | some (.struct fs) => match fs[f]? with
      | some g => match P.info? g.type with
        | some i => if i.size = 0 then 3 else 0
        | none => 3
      | none => 3
    | _ => 3
  | .convert s d _ => match P.underlying s, P.underlying d with
    | some (.int _), some (.int _) => 0
    | _, _ => 3
  | .load _ _ => 1
  | .lookup t _ _ _ => match P.underlying t with
    | some (.map k _) => if eqPlain P 8 k then 1 else 3
    | _ => 3
  | .call c => match c.callee with
    | .builtin .len => match (c.argTypes[0]?).bind P.underlying with
      | some (.slice _) | some .string => 0
      | some (.map _ _) => 1
      | _ => 3
    | _ => 3
  | .alloc _ | .box _ _ | .buildSlice _ _ _ | .makeMap _ _ => 2
  | _ => 3
def calm (ρ : Operand → Value) (o : Oper) : Bool :=
  match o.op with
  | .binOp op _ x y _ => okB op (ρ x) (ρ y)
  | .nilCheck x => match ρ x with
    | .pointer _ | .nilFunc | .func (.func _) _ _ => true
    | _ => false
  | .convert _ _ x => match ρ x with
    | .int _ _ => true
    | _ => false
  | _ => true
def ValOnly (P : Program) (e : Sem Next) : Prop := ∀ w n w', e.run P w = .ok n w' → ∃ v, n = .value v
section
variable {P : Program}
theorem ValOnly.pure (v : Value) : ValOnly P (Pure.pure (.value v)) := fun w n w' h => by cases h; exact ⟨v, rfl⟩
theorem ValOnly.bind {α : Type} {e : Sem α} {f : α → Sem Next} (h : ∀ a, ValOnly P (f a)) : ValOnly P (e >>= f) := fun w n w' hr => by
  rw [Sem.run_bind] at hr
  obtain ⟨a, w1, _, h2⟩ := andThen_ok hr
  exact h a _ _ _ h2
theorem ValOnly.dead {e : Sem Next} (h : Dead P e) : ValOnly P e := fun w n w' hr => absurd hr (h _ _ _)
theorem ValOnly.v (e : Sem Value) : ValOnly P (e >>= fun v => Pure.pure (.value v)) := ValOnly.bind fun _ => ValOnly.pure _
theorem Blank.v {e : Sem Value} (h : Blank P e) : Blank P (e >>= fun v => (Pure.pure (.value v) : Sem Next)) ∧ ValOnly P (e >>= fun v => Pure.pure (.value v)) :=
  ⟨Blank.bind h fun _ => Blank.pure _, ValOnly.v e⟩
theorem Blank.fieldAt {s : TypeId} {fs : Array Field} {f : Nat} {g : Field} {i : TypeInfo} (h1 : P.underlying s = some (.struct fs)) (h2 : fs[f]? = some g) (h3 : P.info? g.type = some i) (h4 : i.size ≠ 0) (x : Value) :
    Blank P (Instr.fieldAt s x f) := by
  have e : ∀ W, (Instr.fieldAt s x f).run P W = (Instr.sureAddr x >>= fun a => Pure.pure (.pointer (some (a.add g.offset)))).run P W := fun W => by
    unfold Instr.fieldAt Go.underlying
    simp only [Sem.run_bind, Go.program, Sem.run, h1, Result.andThen, Sem.run_pure, h2]
    cases hr : (Instr.sureAddr x).run P W with
    | halt h w => rfl
    | ok a w =>
      simp only [Go.fieldPlace, Go.sizeOf, Go.typeInfo, Go.program, Sem.run_bind, Sem.run, Result.andThen, h3, Sem.run_pure, h4, if_false]
  intro w b w' hr
  rw [e] at hr
  obtain ⟨rfl, h⟩ := (Blank.bind (Blank.sureAddr x) fun a => Blank.pure _) w b w' hr
  exact ⟨rfl, fun W => by rw [e]; exact h W⟩
theorem Blank.convertInt {s d : TypeId} {k j : IntKind} (h1 : P.underlying s = some (.int k)) (h2 : P.underlying d = some (.int j)) (q : IntKind) (n : Int) : Blank P (Go.convert s d (.int q n)) := by
  unfold Go.convert
  refine Blank.bindU (fun u hu => ?_)
  rw [h1] at hu; cases hu
  refine Blank.bindU (fun u hu => ?_)
  rw [h2] at hu; cases hu
  exact Blank.pure _
theorem Stable.v {e : Sem Value} (h : Stable P e) : Stable P (e >>= fun v => (Pure.pure (.value v) : Sem Next)) ∧ ValOnly P (e >>= fun v => Pure.pure (.value v)) :=
  ⟨Stable.bind h fun _ => (Blank.pure _).stable, ValOnly.v e⟩
theorem Grows.v {e : Sem Value} (h : Grows P e) : Grows P (e >>= fun v => (Pure.pure (.value v) : Sem Next)) ∧ ValOnly P (e >>= fun v => Pure.pure (.value v)) :=
  ⟨Grows.bind h fun _ => (Blank.pure _).stable.grows, ValOnly.v e⟩
theorem Blank.len {ts : Array TypeId} {type : TypeId} (h : ∀ t, ts[0]? = some t → ∀ u, P.underlying t = some u → (match u with | .slice _ | .string => True | _ => False)) (args : Array Value) : Blank P (Builtin.len_ ts type args) := by
  unfold Builtin.len_
  split
  · rename_i pr t x he
    have ht : ts[0]? = some t := by simp_all
    refine Blank.bindU fun u hu => ?_
    have := h t ht u hu
    cases u <;> try (cases this; done)
    all_goals (split <;> first | exact Blank.pure _ | exact Blank.stuck _ | simp_all)
  · exact Blank.stuck _
theorem Stable.len (ts : Array TypeId) (type : TypeId) (args : Array Value) : Stable P (Builtin.len_ ts type args) := by
  unfold Builtin.len_
  split
  · refine Stable.bindU fun u hu => ?_
    split
    all_goals first
      | exact (Blank.pure _).stable
      | exact (Blank.stuck _).stable
      | skip
    · refine Stable.bind (Blank.underlying _).stable fun u => ?_
      split <;> first | exact (Blank.pure _).stable | exact (Blank.stuck _).stable
    · refine Stable.bind (Stable.getObj _) fun u => ?_
      split <;> first | exact (Blank.pure _).stable | exact (Blank.stuck _).stable
    · refine Stable.bind (Stable.getObj _) fun u => ?_
      split <;> first | exact (Blank.pure _).stable | exact (Blank.stuck _).stable
  · exact (Blank.stuck _).stable
theorem exec_blank {o : Oper} {ρ : Operand → Value} (hk : kind P o = 0) (hc : calm ρ o = true) : Blank P (execOp ρ o) ∧ ValOnly P (execOp ρ o) := by
  obtain ⟨dst, op, type, pos, after, guard⟩ := o
  cases op <;> simp only [kind] at hk <;> try (cases hk; done)
  case move x => exact ⟨Blank.pure _, ValOnly.pure _⟩
  case assign x => exact ⟨Blank.pure _, ValOnly.pure _⟩
  case pick c a b => exact ⟨Blank.bind (Blank.asBool _) fun _ => Blank.pure _, ValOnly.bind fun _ => ValOnly.pure _⟩
  case extract => exact (Blank.extract _ _).v
  case field => exact (Blank.field _ _ _).v
  case index => exact (Blank.index _ _ _).v
  case unOp => exact (Blank.unary _ _).v
  case makeFunc => exact (Blank.pure _).v
  case indexAddr => exact (Blank.indexAt _ _ _).v
  case slice => exact (Blank.sliceAt _ _ _ _ _).v
  case build => exact (Blank.build _ _).v
  case binOp b t x y u =>
    simp only [calm] at hc
    exact (Blank.bind (Blank.eqGuard _ _ _ _ _ _ hc) fun _ => Blank.binOp _ _ _ _ hc).v
  case nilCheck x =>
    simp only [calm] at hc
    simp only [execOp]
    cases hx : ρ x <;> rw [hx] at hc <;> try (simp at hc; done)
    case pointer a => cases a with
      | none => exact ⟨(Dead.runtimePanic _).blank, ValOnly.dead (Dead.runtimePanic _)⟩
      | some a => exact ⟨Blank.pure _, ValOnly.pure _⟩
    case nilFunc => exact ⟨(Dead.runtimePanic _).blank, ValOnly.dead (Dead.runtimePanic _)⟩
    case func fn a b =>
      cases fn <;> first | (simp at hc; done) | exact ⟨Blank.pure _, ValOnly.pure _⟩
  case fieldAddr s x f =>
    cases h1 : P.underlying s with
    | none => rw [h1] at hk; cases hk
    | some u =>
      rw [h1] at hk
      cases u <;> try (cases hk; done)
      case struct fs =>
        dsimp only at hk
        cases h2 : fs[f]? with
        | none => rw [h2] at hk; cases hk
        | some g =>
          rw [h2] at hk
          dsimp only at hk
          cases h3 : P.info? g.type with
          | none => rw [h3] at hk; cases hk
          | some i =>
            rw [h3] at hk
            dsimp only at hk
            split at hk
            · cases hk
            · rename_i h4; exact (Blank.fieldAt h1 h2 h3 h4 _).v
  case convert s d x =>
    simp only [calm] at hc
    simp only [execOp]
    cases hx : ρ x <;> rw [hx] at hc <;> try (simp at hc; done)
    rename_i q n
    cases h1 : P.underlying s with
    | none => rw [h1] at hk; cases hk
    | some u =>
      cases h2 : P.underlying d with
      | none => rw [h1, h2] at hk; cases u <;> cases hk
      | some u2 =>
        rw [h1, h2] at hk
        cases u <;> try (cases hk; done)
        cases u2 <;> try (cases hk; done)
        exact (Blank.convertInt h1 h2 q n).v
  case lookup t x i ok =>
    split at hk
    · split at hk <;> cases hk
    · cases hk
  case call c =>
    obtain ⟨callee, args, ts⟩ := c
    cases callee <;> try (cases hk; done)
    case builtin b =>
      cases b <;> try (cases hk; done)
      dsimp only at hk
      refine (Blank.len ?_ _).v
      intro t ht u hu
      rw [ht, Option.bind_some, hu] at hk
      cases u <;> first | (cases hk; done) | simp
theorem exec_stable {o : Oper} {ρ : Operand → Value} (hk : kind P o = 1) : Stable P (execOp ρ o) ∧ ValOnly P (execOp ρ o) := by
  obtain ⟨dst, op, type, pos, after, guard⟩ := o
  cases op <;> simp only [kind] at hk <;> try (cases hk; done)
  case load t x => exact (Stable.bind (Blank.sureAddr _).stable fun a => Stable.loadVar _ _).v
  case fieldAddr s x f =>
    exfalso
    repeat (split at hk <;> try (cases hk; done))
    all_goals (cases hk)
  case convert s x f =>
    exfalso
    split at hk <;> cases hk
  case lookup t x i ok =>
    cases ht : P.underlying t with
    | none => rw [ht] at hk; cases hk
    | some u =>
      rw [ht] at hk
      cases u <;> try (cases hk; done)
      case map k e =>
        dsimp only at hk
        split at hk
        · rename_i h; exact (Stable.lookup ht h _ _ _).v
        · cases hk
  case call c =>
    obtain ⟨callee, args, ts⟩ := c
    cases callee <;> try (cases hk; done)
    case builtin b =>
      cases b <;> try (cases hk; done)
      exact (Stable.len _ _ _).v
theorem Grows.newVar (t : TypeId) (v : Value) : Grows P (Go.newVar t v) := Grows.bind (Grows.newObj _) fun _ => (Blank.pure _).stable.grows
theorem Grows.newRow (t : TypeId) (v : Array Value) : Grows P (Go.newRow t v) := Grows.bind (Grows.newObj _) fun _ => (Blank.pure _).stable.grows
theorem exec_grows {o : Oper} {ρ : Operand → Value} (hk : kind P o = 2) : Grows P (execOp ρ o) ∧ ValOnly P (execOp ρ o) := by
  obtain ⟨dst, op, type, pos, after, guard⟩ := o
  cases op <;> simp only [kind] at hk <;> try (cases hk; done)
  case fieldAddr s x f =>
    exfalso
    repeat (split at hk <;> try (cases hk; done))
    all_goals (cases hk)
  case convert s x f =>
    exfalso
    split at hk <;> cases hk
  case lookup t x i ok =>
    exfalso
    split at hk
    · split at hk <;> cases hk
    · cases hk
  case alloc t =>
    refine Grows.v ?_
    unfold Instr.alloc
    refine Grows.bind (Blank.zeroValue _).stable.grows fun z => ?_
    exact Grows.bind (Grows.newVar _ _) fun _ => (Blank.pure _).stable.grows
  case box t x => exact Grows.v (Grows.bind (Grows.newVar _ _) fun _ => (Blank.pure _).stable.grows)
  case buildSlice t n ps =>
    refine Grows.v ?_
    unfold Instr.buildSlice
    refine Grows.bind (Blank.underlying _).stable.grows fun u => ?_
    split
    · refine Grows.bind (Blank.sizeOf _).stable.grows fun n => ?_
      dsimp only
      refine Grows.ite ((Dead.halt _).bindL.blank.stable.grows) ?_
      refine Grows.ite (Grows.bind (Blank.pure _).stable.grows fun z => ?_) (Grows.bind (Blank.zeroValue _).stable.grows fun _ => Grows.bind (Blank.pure _).stable.grows fun z => ?_)
      all_goals
        split
        · exact Grows.bind (Grows.newRow _ _) fun _ => (Blank.pure _).stable.grows
        · exact (Blank.stuck _).stable.grows
    · exact (Blank.stuck _).stable.grows
  case makeMap t r =>
    refine Grows.v ?_
    unfold Instr.makeMap
    split
    · refine Grows.bind (Blank.underlying _).stable.grows fun u => ?_
      split
      · exact Grows.bind (Blank.asInt _).stable.grows fun _ => Grows.bind (Grows.newObj _) fun _ => (Blank.pure _).stable.grows
      · exact (Dead.halt _).bindL.blank.stable.grows
    · exact Grows.bind (Grows.newObj _) fun _ => (Blank.pure _).stable.grows
  case call c =>
    exfalso
    obtain ⟨callee, args, ts⟩ := c
    cases callee <;> try (cases hk; done)
    case builtin b =>
      cases b <;> try (cases hk; done)
      dsimp only at hk
      split at hk <;> cases hk
end
end Go.Proofs.Ytopfknikmhkaeaa
