/- Maps in memory, as lists of keys and values; what is done to them at the operations. No conditions. -/
import Derived.Test.YtopfknikmhkaeaaCanonF
import Derived.WalkSpells
import Derived.WalkLawsBesides
import Derived.Lib.Hide
import Derived.Maps.OwnSet
import Derived.Deep.DeepMust
namespace Go.Proofs.Ytopfknikmhkaeaa
open Go.RowKit
set_option linter.unusedSimpArgs false
set_option linter.unusedVariables false

/-- The block at k. -/
def ob (w : World) (k : Nat) : Option Obj := w.heap[k]?
@[go_sem] theorem ob_alloc (w : World) (o : Obj) (k : Nat) (h : k < w.heap.size) : ob (w.alloc o) k = ob w k := Below.heap_alloc w o k h
theorem ob_new (w : World) (o : Obj) : ob (w.alloc o) w.heap.size = some o := by
  show (w.heap.push o)[w.heap.size]? = some o
  simp
@[go_sem] theorem ob_newAt (w : World) (o : Obj) (k : Nat) (h : k = w.heap.size) : ob (w.alloc o) k = some o := by rw [h]; exact ob_new w o
@[go_sem] theorem ob_drew (w : World) (k : Nat) : ob w.drew k = ob w k := rfl
@[go_sem] theorem ob_setCell (w : World) (a : Addr) (v : Value) (k : Nat) (h : k ≠ a.block) : ob (w.setCell a v) k = ob w k := Below.heap_setCell w a v k h
theorem ob_setCell_same {w : World} {b i : Nat} {c : Array Value} {t : TypeId} {f : Nat × Nat} (h : ob w b = some (.cells c t f)) (v : Value) : ob (w.setCell ⟨b, i, none⟩ v) b = some (.cells (c.setIfInBounds i v) t f) := by
  unfold ob World.setCell at *
  simp [Array.getElem?_modify, h]
theorem ob_lt {w : World} {k : Nat} {o : Obj} (h : ob w k = some o) : k < w.heap.size := (Array.getElem?_eq_some_iff.1 h).1
theorem cell_of_ob {w : World} {k : Nat} {c : Array Value} {t : TypeId} {f : Nat × Nat} (h : ob w k = some (.cells c t f)) (i : Nat) : w.cell? ⟨k, i, none⟩ = c[i]? := by
  unfold World.cell? ob at *
  simp [h]
theorem frozen_of_ob {w : World} {k : Nat} {c : Array Value} {t : TypeId} (h : ob w k = some (.cells c t (0, 0))) (i : Nat) : w.frozen? ⟨k, i, none⟩ = false := by
  unfold World.frozen? ob at *
  simp [h]

/-- A block that is no row of cells is put in place of another. -/
def putOb (w : World) (k : Nat) (o : Obj) : World := { w with heap := w.heap.setIfInBounds k o }
@[go_sem, simp] theorem size_putOb (w : World) (k : Nat) (o : Obj) : (putOb w k o).heap.size = w.heap.size := by simp [putOb]
theorem ob_putOb_same {w : World} {k : Nat} {o o' : Obj} (h : ob w k = some o') : ob (putOb w k o) k = some o := by
  have := ob_lt h
  unfold ob putOb
  simp [this]
@[go_sem] theorem ob_putOb_ne (w : World) (k j : Nat) (o : Obj) (h : j ≠ k) : ob (putOb w k o) j = ob w j := by
  unfold ob putOb
  simp [Array.getElem?_setIfInBounds_ne (Ne.symm h)]
@[go_sem] theorem cell_putOb_ne (w : World) (k : Nat) (o : Obj) (b i : Nat) (h : b ≠ k) : (putOb w k o).cell? ⟨b, i, none⟩ = w.cell? ⟨b, i, none⟩ :=
  World.cell?_of_block (w := w) (ob_putOb_ne w k b o h)
@[go_sem] theorem frozen_putOb_ne (w : World) (k : Nat) (o : Obj) (b i : Nat) (h : b ≠ k) : (putOb w k o).frozen? ⟨b, i, none⟩ = w.frozen? ⟨b, i, none⟩ :=
  World.frozen?_of_block (w := w) (ob_putOb_ne w k b o h)

theorem run_und {P : Program} {T : TypeId} {u : TypeDesc} (h : P.underlying T = some u) (w : World) : (Go.underlying T).run P w = .ok u w := by
  unfold Go.underlying
  simp only [Sem.run_bind, Go.program, Sem.run, Result.andThen, h]
  rfl
theorem eql_slice_nil_in {P : Program} (w : World) (t : TypeId) {e : TypeId} {n c : Nat} (a : Option Addr) (h : P.underlying t = some (.slice e)) : (Op.equal t (.slice a n c) (.slice none 0 0)).run P w = .ok a.isNone w := by
  unfold Op.equal Op.maxDepth Op.equalIn
  rw [Sem.run_bind, run_und h]
  cases a <;> rfl
@[go_sem] theorem eql_slice_nil {P : Program} (w : World) (t : TypeId) {e : TypeId} {n c : Nat} (a : Option Addr) (h : P.underlying t = some (.slice e)) : (binOp .eql t (.slice a n c) (.slice none 0 0)).run P w = .ok (.bool a.isNone) w := by
  change Sem.run P (Op.equal t (.slice a n c) (.slice none 0 0) >>= _) w = _
  rw [Sem.run_bind, eql_slice_nil_in w t _ h]
  rfl
theorem eql_map_nil_in {P : Program} (w : World) (t : TypeId) {k e : TypeId} (a : Option Nat) (h : P.underlying t = some (.map k e)) : (Op.equal t (.map a) (.map none)).run P w = .ok a.isNone w := by
  unfold Op.equal Op.maxDepth Op.equalIn
  rw [Sem.run_bind, run_und h]
  cases a <;> rfl
@[go_sem] theorem eql_map_nil {P : Program} (w : World) (t : TypeId) {k e : TypeId} (a : Option Nat) (h : P.underlying t = some (.map k e)) : (binOp .eql t (.map a) (.map none)).run P w = .ok (.bool a.isNone) w := by
  change Sem.run P (Op.equal t (.map a) (.map none) >>= _) w = _
  rw [Sem.run_bind, eql_map_nil_in w t _ h]
  rfl
/-! ### The operations on a map, said of the block that they look at -/
def getR (o : Option Obj) (w : World) : Result Obj :=
  match o with
  | some (.cells _ _ _) => .halt (.stuck "getObj: a row of cells") w
  | some o => .ok o w
  | none => .halt (.stuck "getObj: no such block") w
theorem run_getObj_ob {P : Program} (r : Nat) (w : World) : (Go.getObj r).run P w = getR (ob w r) w := by
  unfold Go.getObj getR ob
  simp only [Sem.run]
  cases w.heap[r]? with
  | none => rfl
  | some o => cases o <;> rfl
theorem run_setObj_map {P : Program} (r : Nat) (w : World) {es : Array MapEntry} {c : Nat} (h : ob w r = some (.map es c)) (o : Obj) : (Go.setObj r o).run P w = .ok () (putOb w r o) := by
  unfold Go.setObj ob at *
  simp only [Sem.run, h]
  rfl
theorem run_und_none {P : Program} {T : TypeId} (h : P.underlying T = none) (w : World) : (Go.underlying T).run P w = .halt (.stuck "no such type") w := by
  unfold Go.underlying
  simp only [Sem.run_bind, Go.program, Sem.run, Result.andThen, h]
  rfl
/-- What a look-up does with the entries. -/
def lookIn (key elem : TypeId) (k : Value) (b : Bool) (es : Array MapEntry) : Sem Value := do
  Instr.checkKey es.isEmpty 10000 key k
  let (v, ok) ← match ← Instr.findKey key k es.toList with
    | some (_, v) => pure (v, true)
    | none => pure (← zeroValue elem, false)
  pure (if b then .tuple #[v, .bool ok] else v)
def lookR (P : Program) (T : TypeId) (k : Value) (b : Bool) (o : Option Obj) (w : World) : Result Value :=
  match P.underlying T with
  | some (.map key elem) => match o with
    | some (.map es _) => (lookIn key elem k b es).run P w
    | _ => (getR o w).andThen fun _ w => .halt (.stuck "Lookup: map expected") w
  | some _ => .halt (.stuck "Lookup: map type expected") w
  | none => .halt (.stuck "no such type") w
@[go_sem] theorem run_lookup_ob (P : Program) (T : TypeId) (m : Nat) (k : Value) (b : Bool) (w : World) :
    (Instr.lookup T (.map (some m)) k b).run P w = lookR P T k b (ob w m) w := by
  unfold Instr.lookup lookR
  rw [Sem.run_bind]
  cases hu : P.underlying T with
  | none => rw [run_und_none hu]; rfl
  | some u =>
    rw [run_und hu]
    dsimp only [Result.andThen]
    cases u <;> try rfl
    case map key elem =>
      dsimp only
      rw [Sem.run_bind, run_getObj_ob]
      cases ob w m with
      | none => rfl
      | some o => cases o <;> rfl
def updR (P : Program) (T : TypeId) (m : Nat) (k v : Value) (o : Option Obj) (w : World) : Result Unit :=
  match P.underlying T with
  | some (.map key _) => match o with
    | some (.map es clock) => (do
        Instr.checkKey false 10000 key k
        match ← Instr.findKey key k es.toList with
        | some (i, _) => do
          let key ← Instr.keyThatStays (((es[i]?).map (·.key)).getD k) k
          setObj m (.map (es.modify i fun e => { e with key, val := v }) clock)
        | none => setObj m (.map (es.push { key := k, val := v, born := clock }) (clock + 1)) : Sem Unit).run P w
    | _ => (getR o w).andThen fun _ w => .halt (.stuck "MapUpdate: map expected") w
  | some _ => .halt (.stuck "MapUpdate: map type expected") w
  | none => .halt (.stuck "no such type") w
@[go_sem] theorem run_update_ob (P : Program) (T : TypeId) (m : Nat) (k v : Value) (w : World) :
    (Instr.mapUpdate T (.map (some m)) k v).run P w = updR P T m k v (ob w m) w := by
  unfold Instr.mapUpdate updR
  rw [Sem.run_bind]
  cases hu : P.underlying T with
  | none => rw [run_und_none hu]; rfl
  | some u =>
    rw [run_und hu]
    dsimp only [Result.andThen]
    cases u <;> try rfl
    case map key elem =>
      dsimp only
      rw [Sem.run_bind, run_getObj_ob]
      cases ob w m with
      | none => rfl
      | some o => cases o <;> rfl
def delR (P : Program) (T : TypeId) (m : Nat) (k : Value) (o : Option Obj) (w : World) : Result Value :=
  match P.underlying T with
  | some (.map key _) => match o with
    | some (.map es clock) => (do
        Instr.checkKey es.isEmpty 10000 key k
        match ← Instr.findKey key k es.toList with
        | some (i, _) => do
          setObj m (.map (es.eraseIdxIfInBounds i) clock)
          pure (.tuple #[])
        | none => do
          setObj m (.map es clock)
          pure (.tuple #[]) : Sem Value).run P w
    | _ => (getR o w).andThen fun _ w => .halt (.stuck "delete: map expected") w
  | some _ => .halt (.stuck "delete: map type expected") w
  | none => .halt (.stuck "no such type") w
theorem run_delete_ob (P : Program) (T U ty : TypeId) (m : Nat) (k : Value) (w : World) :
    (Builtin.delete_ #[T, U] ty #[.map (some m), k]).run P w = delR P T m k (ob w m) w := by
  unfold Builtin.delete_ delR
  change Sem.run P (Go.underlying T >>= _) w = _
  rw [Sem.run_bind]
  cases hu : P.underlying T with
  | none => rw [run_und_none hu]; rfl
  | some u =>
    rw [run_und hu]
    dsimp only [Result.andThen]
    cases u <;> try rfl
    case map key elem =>
      change Sem.run P (Go.getObj m >>= _) w = _
      rw [Sem.run_bind, run_getObj_ob]
      cases ob w m with
      | none => rfl
      | some o => cases o <;> rfl

/-! ### Keys -/
/-- Keys of type K are told by enc: alike just if they are one; every one may be a key. -/
structure KeyOK {κ : Type} [DecidableEq κ] (P : Program) (K : TypeId) (enc : κ → Value) : Prop where
  find : ∀ (k : κ) (es : List MapEntry) (l : List κ) (w : World), es.map (·.key) = l.map enc →
    (Instr.findKey K (enc k) es).run P w = .ok ((l.findIdx? (fun x => decide (x = k))).map fun i => (i, (es.map (·.val)).getD i undef)) w
  check : ∀ (b : Bool) (k : κ) (w : World), (Instr.checkKey b 10000 K (enc k)).run P w = .ok () w
  bits : ∀ k, Instr.sameBits 10000 (enc k) (enc k) = true
section
variable {P : Program} {κ : Type} [DecidableEq κ] {K : TypeId} {enc : κ → Value}
theorem findAsking_run (heq : ∀ a b w, (Op.equal K (enc a) (enc b)).run P w = .ok (decide (b = a)) w) (k : κ) (w : World) : ∀ (es : List MapEntry) (l : List κ) (i : Nat), es.map (·.key) = l.map enc →
    (Instr.findAsking K (enc k) es i).run P w = .ok ((l.findIdx? (fun x => decide (x = k))).map fun j => (i + j, (es.map (·.val)).getD j undef)) w
  | [], [], i, _ => rfl
  | [], _ :: _, _, h => by cases h
  | _ :: _, [], _, h => by cases h
  | e :: es, x :: l, i, h => by
    simp only [List.map_cons, List.cons.injEq] at h
    unfold Instr.findAsking
    rw [Sem.run_bind, h.1, heq]
    simp only [Result.andThen, List.findIdx?_cons]
    by_cases hx : x = k
    · simp only [hx, decide_true, if_true]
      rfl
    · simp only [hx, decide_false, Bool.false_eq_true, if_false]
      rw [findAsking_run heq k w es l (i + 1) h.2]
      cases l.findIdx? (fun x => decide (x = k)) with
      | none => rfl
      | some j => simp [Nat.add_assoc, Nat.add_comm 1 j]
theorem findNow_asks {u : TypeDesc} (hu : ∀ a b, Instr.sameNow u a b = none) (k : Value) (es : List MapEntry) : Instr.findNow u k es 0 = if es = [] then some none else none := by
  cases es with
  | nil => rfl
  | cons e es => simp [Instr.findNow, hu]
theorem KeyOK.of_asking {u : TypeDesc} (hK : P.underlying K = some u) (hu : ∀ a b, Instr.sameNow u a b = none)
    (heq : ∀ a b w, (Op.equal K (enc a) (enc b)).run P w = .ok (decide (b = a)) w) (hc : ∀ b k w, (Instr.checkKey b 10000 K (enc k)).run P w = .ok () w)
    (hb : ∀ k, Instr.sameBits 10000 (enc k) (enc k) = true) : KeyOK P K enc where
  check := hc
  bits := hb
  find k es l w h := by
    unfold Instr.findKey
    rw [Sem.run_bind, run_und hK]
    simp only [Result.andThen, findNow_asks hu]
    cases es with
    | nil =>
      cases l with
      | nil => rfl
      | cons x l => cases h
    | cons e es =>
      simp only [List.cons_ne_nil, if_false]
      rw [findAsking_run heq k w _ l 0 h]
      simp
theorem KeyOK.int {q : IntKind} {K : TypeId} (hK : P.underlying K = some (.int q)) : KeyOK P K (fun n : Int => .int q n) where
  check b k w := by
    unfold Instr.checkKey
    rw [Sem.run_bind, run_und hK]
    rfl
  bits k := by simp [Instr.sameBits]
  find k es l w h := by
    unfold Instr.findKey
    rw [Sem.run_bind, run_und hK]
    have key : ∀ (es : List MapEntry) (l : List Int) (i : Nat), es.map (·.key) = l.map (fun n => Value.int q n) →
        Instr.findNow (.int q) (.int q k) es i = some ((l.findIdx? (fun x => decide (x = k))).map fun j => (i + j, (es.map (·.val)).getD j undef)) := by
      intro es
      induction es with
      | nil =>
        intro l i h
        cases l with
        | nil => rfl
        | cons x l => cases h
      | cons e es ih =>
        intro l i h
        cases l with
        | nil => cases h
        | cons x l =>
          simp only [List.map_cons, List.cons.injEq] at h
          simp only [Instr.findNow, h.1, Instr.sameNow, if_true, List.findIdx?_cons]
          by_cases hx : x = k
          · simp [hx]
          · have : (k == x) = false := by simp; exact fun e => hx e.symm
            simp only [this, hx, decide_false, Bool.false_eq_true, if_false]
            rw [ih l (i + 1) h.2]
            cases l.findIdx? (fun x => decide (x = k)) with
            | none => rfl
            | some j => simp [Nat.add_assoc, Nat.add_comm 1 j]
    simp only [Result.andThen, key es l 0 h]
    simp [Sem.run_pure]
end
end Go.Proofs.Ytopfknikmhkaeaa
