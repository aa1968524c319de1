/- The kinds of operations: 0 reckons, 1 reads, 2 makes new blocks, 3 anything else. No conditions. -/
import Derived.Test.YtopfknikmhkaeaaCanonB
namespace Go.Proofs.Ytopfknikmhkaeaa
open Go.RowKit
set_option linter.unusedSimpArgs false
set_option linter.unusedVariables false
def okB (op : BinOp) (x y : Value) : Bool := (plainV x && plainV y) || ((match op with | .eql | .neq => true | _ => false) && (nilV x || nilV y))
section
variable {P : Program} {α β : Type}
theorem Dead.bindL {e : Sem α} {f : α → Sem β} (h : Dead P e) : Dead P (e >>= f) := fun w b w' hr => by
  rw [Sem.run_bind] at hr
  obtain ⟨a, w1, h1, _⟩ := andThen_ok hr
  exact h w a w1 h1
theorem Blank.eqGuardIn : ∀ (d : Nat) (t : TypeId) (x y : Value), plainV x = true → plainV y = true → Blank P (Op.eqGuardIn d t x y)
  | 0, _, _, _, _, _ => Blank.unsupported _
  | d + 1, t, x, y, hx, hy => by
    unfold Op.eqGuardIn
    refine Blank.bind (Blank.underlying t) fun u => ?_
    split
    · exact Blank.pure _
    · rename_i fields xs ys
      refine Blank.bind (Blank.forIn_array _ (fun f s => ?_) _ _) fun r => ?_
      · refine Blank.ite ?_ (Blank.pure _)
        refine Blank.bindP (Q := fun v => plainV v = true) (Blank.part _ _ _) (plain_part (by simpa [plainV] using hx)) fun a ha => ?_
        refine Blank.bindP (Q := fun v => plainV v = true) (Blank.part _ _ _) (plain_part (by simpa [plainV] using hy)) fun b hb => ?_
        refine Blank.bind (Blank.eqGuardIn d _ a b ha hb) fun r => ?_
        refine Blank.ite ?_ ?_ <;> exact Blank.pure _
      · dsimp only
        split <;> exact Blank.pure _
    · rename_i len elem xs ys
      refine Blank.bind (Blank.sizeOf _) fun n => ?_
      refine Blank.bind (Blank.forIn_range _ (fun i s => ?_) _ _) fun r => ?_
      · refine Blank.bindP (Q := fun v => plainV v = true) (Blank.part _ _ _) (plain_part (by simpa [plainV] using hx)) fun a ha => ?_
        refine Blank.bindP (Q := fun v => plainV v = true) (Blank.part _ _ _) (plain_part (by simpa [plainV] using hy)) fun b hb => ?_
        refine Blank.bind (Blank.eqGuardIn d _ a b ha hb) fun r => ?_
        refine Blank.ite ?_ ?_ <;> exact Blank.pure _
      · dsimp only
        split <;> exact Blank.pure _
    · exact Blank.pure _
theorem Blank.equalNil (t : TypeId) (x y : Value) (h : nilV x = true ∨ nilV y = true) : Blank P (Op.equal t x y) := by
  unfold Op.equal Op.maxDepth Op.equalIn
  refine Blank.bind (Blank.underlying t) fun u => ?_
  split
  all_goals first
    | exact Blank.pure _
    | exact Blank.stuck _
    | exact Blank.unsupported _
    | (exfalso; simp [nilV] at h; done)
    | skip
  · rename_i a b
    cases a <;> cases b <;> first | exact Blank.pure _ | (simp [nilV] at h; done)
theorem Blank.eqGuard (op : BinOp) (t : TypeId) (xo yo : Operand) (x y : Value) (h : okB op x y = true) : Blank P (Go.eqGuard op t xo yo x y) := by
  unfold Go.eqGuard
  refine Blank.ite (Blank.pure _) ?_
  split
  · exfalso; cases op <;> simp [okB, plainV, plain1, nilV] at h
  · rename_i xs ys
    have hx : plainV (.agg xs) = true := by cases op <;> simp [okB, nilV] at h <;> exact h.1
    have hy : plainV (.agg ys) = true := by cases op <;> simp [okB, nilV] at h <;> exact h.2
    refine Blank.bind Blank.program fun p => Blank.ite (Blank.pure _) ?_
    refine Blank.bind (Blank.eqGuardIn _ _ _ _ hx hy) fun b => Blank.ite (Blank.unsupported _) (Blank.pure _)
  · exact Blank.pure _
theorem Blank.intArith (op : BinOp) (k : IntKind) (a b : Int) : Blank P (Op.intArith op k a b) := by unfold Op.intArith; split <;> first | exact Blank.pure _ | exact Blank.stuck _
theorem Blank.intDiv (op : BinOp) (k : IntKind) (a b : Int) : Blank P (Op.intDiv op k a b) := by
  unfold Op.intDiv; refine Blank.ite (Dead.runtimePanic _).blank ?_; split <;> first | exact Blank.pure _ | exact Blank.stuck _
theorem Blank.intBits (op : BinOp) (k : IntKind) (a b : Int) : Blank P (Op.intBits op k a b) := by unfold Op.intBits; dsimp only; split <;> first | exact Blank.pure _ | exact Blank.stuck _
theorem Blank.intCmp (op : BinOp) (a b : Int) : Blank P (Op.intCmp op a b) := by unfold Op.intCmp; split <;> first | exact Blank.pure _ | exact Blank.stuck _
theorem Blank.shift (op : BinOp) (k j : IntKind) (a b : Int) : Blank P (Op.shift op k a j b) := by
  unfold Op.shift; refine Blank.ite (Dead.runtimePanic _).blank ?_; dsimp only; split <;> first | exact Blank.pure _ | exact Blank.stuck _
theorem Blank.stringOp (op : BinOp) (a b : ByteArray) : Blank P (Op.stringOp op a b) := by
  unfold Op.stringOp; dsimp only; split <;> first | exact Blank.pure _ | exact Blank.stuck _ | exact Blank.ite (Blank.unsupported _) (Blank.pure _)
theorem Blank.binOp (op : BinOp) (t : TypeId) (x y : Value) (h : okB op x y = true) : Blank P (Go.binOp op t x y) := by
  unfold Go.binOp
  split
  all_goals first
    | exact Blank.shift _ _ _ _ _
    | exact Blank.stringOp _ _ _
    | (exfalso; simp [okB, plainV, plain1, nilV] at h; done)
    | exact Blank.unsupported _
    | exact Blank.stuck _
    | skip
  · refine Blank.ite (Blank.stuck _) ?_
    split <;> first | exact Blank.intArith _ _ _ _ | exact Blank.intDiv _ _ _ _ | exact Blank.intBits _ _ _ _ | exact Blank.intCmp _ _ _
  · rename_i x y _ _ _ _
    refine Blank.bind ?_ fun _ => Blank.pure _
    simp only [okB, Bool.and_true, Bool.true_and, Bool.or_eq_true, Bool.and_eq_true] at h
    rcases h with h | h
    · exact Blank.equalIn _ _ _ _ h.1 h.2
    · exact Blank.equalNil _ _ _ h
  · rename_i x y _ _ _ _
    refine Blank.bind ?_ fun _ => Blank.pure _
    simp only [okB, Bool.and_true, Bool.true_and, Bool.or_eq_true, Bool.and_eq_true] at h
    rcases h with h | h
    · exact Blank.equalIn _ _ _ _ h.1 h.2
    · exact Blank.equalNil _ _ _ h
theorem Blank.arrayMapM {γ : Type} (f : γ → Sem β) (hf : ∀ x, Blank P (f x)) (l : Array γ) : Blank P (l.mapM f) := by
  rw [Array.mapM_eq_mapM_toList]
  have : ∀ (l : List γ), Blank P (l.mapM f) := fun l => by
    induction l with
    | nil => exact Blank.pure _
    | cons x l ih =>
      rw [List.mapM_cons]
      exact Blank.bind (hf x) fun _ => Blank.bind ih fun _ => Blank.pure _
  exact Blank.bind (this _) fun _ => Blank.pure _
theorem Blank.build (t : TypeId) (ps : Array (Nat × Value)) : Blank P (Instr.build t ps) := by
  unfold Instr.build
  refine Blank.bind (Blank.zeroValue t) fun z => Blank.bind (Blank.underlying t) fun u => ?_
  split
  · refine Blank.bind (Blank.arrayMapM _ (fun f => Blank.bind (Blank.sizeOf _) fun _ => Blank.pure _) _) fun places => ?_
    split <;> first | exact Blank.pure _ | exact Blank.stuck _
  · refine Blank.bind (Blank.sizeOf _) fun n => ?_
    split <;> first | exact Blank.pure _ | exact Blank.stuck _
  · exact Blank.stuck _
theorem Blank.extract (v : Value) (i : Nat) : Blank P (Instr.extract v i) := by
  unfold Instr.extract
  split
  · split <;> first | exact Blank.pure _ | exact Blank.stuck _
  · exact Blank.stuck _
theorem Blank.field (t : TypeId) (v : Value) (i : Nat) : Blank P (Instr.field t v i) := by
  unfold Instr.field
  refine Blank.bind (Blank.underlying t) fun u => ?_
  split
  · split
    · exact Blank.bind (Blank.asAgg _) fun _ => Blank.part _ _ _
    · exact Blank.stuck _
  · exact Blank.stuck _
theorem Blank.index (t : TypeId) (v i : Value) : Blank P (Instr.index t v i) := by
  unfold Instr.index
  refine Blank.bind (Blank.asIntOf _) fun ki => ?_
  obtain ⟨k, n⟩ := ki
  dsimp only
  refine Blank.bind (Blank.underlying t) fun u => ?_
  split
  · exact Blank.ite (Blank.bind (Blank.sizeOf _) fun _ => Blank.part _ _ _) (Dead.boundsPanic _ _ _ _).blank
  · split
    · exact Blank.pure _
    · exact (Dead.boundsPanic _ _ _ _).blank
  · exact Blank.stuck _
theorem Blank.sureAddr (v : Value) : Blank P (Instr.sureAddr v) := by unfold Instr.sureAddr; split <;> first | exact Blank.pure _ | exact Blank.stuck _
theorem Blank.asAddr (v : Value) : Blank P (Go.asAddr v) := by unfold Go.asAddr; split <;> first | exact Blank.pure _ | exact Blank.stuck _ | exact (Dead.runtimePanic _).blank
theorem Blank.indexAt (t : TypeId) (v i : Value) : Blank P (Instr.indexAt t v i) := by
  unfold Instr.indexAt
  refine Blank.bind (Blank.asIntOf _) fun ki => ?_
  obtain ⟨k, n⟩ := ki
  dsimp only
  refine Blank.bind (Blank.underlying t) fun u => ?_
  split
  · refine Blank.bind (Blank.sureAddr _) fun a => Blank.bind (Blank.pure _) fun ble => Blank.bind (Blank.underlying t) fun _ => ?_
    split
    · exact Blank.ite (Blank.bind (Blank.sizeOf _) fun _ => Blank.pure _) (Blank.ite (Blank.unsupported _) (Dead.boundsPanic _ _ _ _).blank)
    · exact (Dead.boundsPanic _ _ _ _).blank
  · refine Blank.bind (Blank.pure _) fun ble => Blank.bind (Blank.underlying t) fun _ => ?_
    split
    · exact Blank.ite (Blank.bind (Blank.sizeOf _) fun _ => Blank.pure _) (Blank.ite (Blank.unsupported _) (Dead.boundsPanic _ _ _ _).blank)
    · exact (Dead.boundsPanic _ _ _ _).blank
  · exact (Dead.halt _).bindL.blank
theorem Blank.sliceBound (x : Value) (y : Nat) (c : BoundsCode) : Blank P (Instr.sliceBound x y c) := by
  unfold Instr.sliceBound
  refine Blank.bind (Blank.asIntOf _) fun ki => ?_
  obtain ⟨k, n⟩ := ki
  exact Blank.ite (Blank.pure _) (Dead.boundsPanic _ _ _ _).blank
theorem Blank.sliceBounds (b : Bool) (l c : Nat) (x y z : Option Value) : Blank P (Instr.sliceBounds b l c x y z) := by
  unfold Instr.sliceBounds
  dsimp only
  cases x <;> cases y <;> cases z <;> dsimp only <;> repeat (first | exact Blank.pure _ | exact (Dead.halt _).bindL.blank | refine Blank.bind (Blank.sliceBound _ _ _) fun _ => ?_ | refine Blank.bind (Blank.pure _) fun _ => ?_)
theorem Blank.slice (t : TypeId) (v : Value) (x y z : Option Value) : Blank P (Instr.slice t v x y z) := by
  unfold Instr.slice
  refine Blank.bind (Blank.underlying t) fun u => ?_
  split
  · refine Blank.ite (Blank.stuck _) ?_
    exact Blank.bind (Blank.sliceBounds _ _ _ _ _ _) fun r => Blank.pure _
  · refine Blank.bind (Blank.sliceBounds _ _ _ _ _ _) fun r => ?_
    exact Blank.bind (Blank.sizeOf _) fun _ => Blank.pure _
  · refine Blank.bind (Blank.asAddr _) fun r => Blank.bind (Blank.underlying _) fun u => ?_
    split
    · refine Blank.bind (Blank.sliceBounds _ _ _ _ _ _) fun r => ?_
      exact Blank.bind (Blank.sizeOf _) fun _ => Blank.pure _
    · exact Blank.stuck _
  · exact Blank.stuck _
theorem Blank.sliceAt (t : TypeId) (v : Value) (x y z : Option Value) : Blank P (Instr.sliceAt t v x y z) := by
  unfold Instr.sliceAt
  refine Blank.bind (Blank.underlying t) fun u => ?_
  split
  · refine Blank.bind (Blank.sureAddr _) fun r => Blank.bind (Blank.sliceBounds _ _ _ _ _ _) fun r => ?_
    exact Blank.bind (Blank.sizeOf _) fun _ => Blank.pure _
  · exact Blank.slice _ _ _ _ _
theorem Blank.unary (op : UnOp) (x : Value) : Blank P (Op.unary op x) := by
  unfold Op.unary
  split <;> first | exact Blank.pure _ | exact Blank.stuck _ | exact Blank.unsupported _ | exact Blank.intArith _ _ _ _ | exact Blank.intBits _ _ _ _
theorem Stable.checkKey : ∀ (d : Nat) (b : Bool) (t : TypeId) (v : Value), Blank P (Instr.checkKey b d t v)
  | 0, _, _, _ => Blank.unsupported _
  | d + 1, b, t, v => by
    unfold Instr.checkKey
    refine Blank.bind (Blank.underlying t) fun u => ?_
    split
    · refine Blank.bind (Blank.typeInfo _) fun i => ?_
      refine Blank.ite ?_ (Stable.checkKey d b _ _)
      refine Blank.ite (Dead.runtimePanic _).bindL.blank ?_
      exact (Dead.bind fun _ => (Dead.runtimePanic _).bindL).blank
    · refine Blank.bind (Blank.forIn_range _ (fun i s => ?_) _ _) fun r => Blank.pure _
      refine Blank.bind (Blank.sizeOf _) fun n => Blank.bind (Blank.part _ _ _) fun v => Blank.bind (Stable.checkKey d b _ v) fun _ => Blank.pure _
    · refine Blank.bind (Blank.forIn_array _ (fun i s => ?_) _ _) fun r => Blank.pure _
      refine Blank.ite ?_ (Blank.pure _)
      refine Blank.bind (Blank.part _ _ _) fun v => ?_
      exact Blank.bind (Stable.checkKey d b _ v) fun _ => Blank.pure _
    all_goals first | exact Blank.pure _ | exact Blank.stuck _
theorem Stable.findAsking {k : TypeId} {n : Nat} (h : eqPlain P n k = true) (v : Value) : ∀ (l : List MapEntry) (i : Nat), Stable P (Instr.findAsking k v l i)
  | [], _ => (Blank.pure _).stable
  | e :: l, i => by
    unfold Instr.findAsking
    refine Stable.bind (Stable.equalIn _ k n _ _ h) fun b => Stable.ite (Blank.pure _).stable (Stable.findAsking h v l (i + 1))
theorem Stable.findKey {k : TypeId} {n : Nat} (h : eqPlain P n k = true) (v : Value) (l : List MapEntry) : Stable P (Instr.findKey k v l) := by
  unfold Instr.findKey
  refine Stable.bind (Blank.underlying _).stable fun u => ?_
  split
  · exact (Blank.pure _).stable
  · exact Stable.findAsking h _ _ _
theorem Stable.lookup {t k e : TypeId} {n : Nat} (ht : P.underlying t = some (.map k e)) (h : eqPlain P n k = true) (x i : Value) (ok : Bool) : Stable P (Instr.lookup t x i ok) := by
  unfold Instr.lookup
  refine Stable.bindU fun u hu => ?_
  rw [ht] at hu
  cases hu
  dsimp only
  split
  · refine Stable.bind (Blank.pure _).stable fun es => ?_
    refine Stable.bind (Stable.checkKey _ _ _ _).stable fun _ => Stable.bind (Stable.findKey h _ _) fun r => ?_
    split
    · exact (Blank.bind (Blank.pure _) fun _ => Blank.pure _).stable
    · exact (Blank.bind (Blank.zeroValue _) fun _ => Blank.bind (Blank.pure _) fun _ => Blank.pure _).stable
  · refine Stable.bind (Stable.getObj _) fun o => ?_
    split
    · refine Stable.bind (Blank.pure _).stable fun es => ?_
      refine Stable.bind (Stable.checkKey _ _ _ _).stable fun _ => Stable.bind (Stable.findKey h _ _) fun r => ?_
      split
      · exact (Blank.bind (Blank.pure _) fun _ => Blank.pure _).stable
      · exact (Blank.bind (Blank.zeroValue _) fun _ => Blank.bind (Blank.pure _) fun _ => Blank.pure _).stable
    · exact (Dead.halt _).bindL.blank.stable
  · exact (Dead.halt _).bindL.blank.stable
end
end Go.Proofs.Ytopfknikmhkaeaa
