/- A law of regions that draw their order: if the operations, taken in ONE order that a check allows, come to the post, then they do in every order. Conditions: the post admits neither a panic nor a slice that is outgrown. -/
import Derived.Test.YtopfknikmhkaeaaRows
import Derived.WalkKit
namespace Go.Proofs.Ytopfknikmhkaeaa
open Go.RowKit
set_option linter.unusedSimpArgs false
set_option linter.unusedVariables false

/-- Every block of w is in W as it was. -/
def HExt (w W : World) : Prop := ∀ (k : Nat) (o : Obj), w.heap[k]? = some o → W.heap[k]? = some o
theorem HExt.refl (w : World) : HExt w w := fun _ _ h => h
theorem HExt.trans {a b c : World} (h : HExt a b) (k : HExt b c) : HExt a c := fun i o hi => k i o (h i o hi)
theorem HExt.cell {w W : World} (h : HExt w W) {a : Addr} {v : Value} (hc : w.cell? a = some v) : W.cell? a = some v := by
  unfold World.cell? at hc ⊢
  cases hb : w.heap[a.block]? with
  | none => rw [hb] at hc; cases hc
  | some o => rw [hb] at hc; rw [h _ _ hb]; exact hc

def Blank (P : Program) {α : Type} (e : Sem α) : Prop := ∀ w a w', e.run P w = .ok a w' → w' = w ∧ ∀ W, e.run P W = .ok a W
def Stable (P : Program) {α : Type} (e : Sem α) : Prop := ∀ w a w', e.run P w = .ok a w' → w' = w ∧ ∀ W, HExt w W → e.run P W = .ok a W
def Grows (P : Program) {α : Type} (e : Sem α) : Prop := ∀ w a w', e.run P w = .ok a w' → HExt w w'

/-- Values of this type are held against each other without a look at memory: numbers, bools, strings, structs of such. -/
def eqPlain (P : Program) : Nat → TypeId → Bool
  | 0, _ => false
  | n + 1, t => match P.underlying t with
    | some (.int _) | some .bool | some .string => true
    | some (.struct fs) => fs.all fun f => eqPlain P n f.type
    | _ => false

section
variable {P : Program} {α β : Type}
theorem andThen_ok {r : Result α} {f : α → World → Result β} {b : β} {w' : World} (h : r.andThen f = .ok b w') : ∃ a w1, r = .ok a w1 ∧ f a w1 = .ok b w' := by
  cases r with
  | ok a w1 => exact ⟨a, w1, rfl, h⟩
  | halt x w1 => cases h
theorem Blank.stable {e : Sem α} (h : Blank P e) : Stable P e := fun w a w' hr => ⟨(h w a w' hr).1, fun W _ => (h w a w' hr).2 W⟩
theorem Stable.grows {e : Sem α} (h : Stable P e) : Grows P e := fun w a w' hr => (h w a w' hr).1 ▸ HExt.refl w

theorem Blank.pure' (a : α) : Blank P (Sem.pure a) := fun w b w' h => by
  cases h; exact ⟨rfl, fun W => rfl⟩
theorem Blank.pure (a : α) : Blank P (Pure.pure a : Sem α) := Blank.pure' a
theorem Blank.halt (h : Halt) : Blank P (Sem.halt h : Sem α) := fun w b w' h => by cases h
theorem Blank.stuck (s : String) : Blank P (Go.stuck s : Sem α) := Blank.halt _
theorem Blank.unsupported (s : Unsupported) : Blank P (Go.unsupported s : Sem α) := Blank.halt _
theorem Blank.program : Blank P Go.program := fun w b w' h => by cases h; exact ⟨rfl, fun W => rfl⟩
theorem Blank.bind {e : Sem α} {f : α → Sem β} (h : Blank P e) (hf : ∀ a, Blank P (f a)) : Blank P (e >>= f) := fun w b w' hr => by
  rw [Sem.run_bind] at hr
  obtain ⟨a, w1, h1, h2⟩ := andThen_ok hr
  obtain ⟨rfl, h3⟩ := h w a w1 h1
  obtain ⟨rfl, h4⟩ := hf a w1 b w' h2
  exact ⟨rfl, fun W => by rw [Sem.run_bind, h3 W]; exact h4 W⟩
theorem Stable.bind {e : Sem α} {f : α → Sem β} (h : Stable P e) (hf : ∀ a, Stable P (f a)) : Stable P (e >>= f) := fun w b w' hr => by
  rw [Sem.run_bind] at hr
  obtain ⟨a, w1, h1, h2⟩ := andThen_ok hr
  obtain ⟨rfl, h3⟩ := h w a w1 h1
  obtain ⟨rfl, h4⟩ := hf a w1 b w' h2
  exact ⟨rfl, fun W hW => by rw [Sem.run_bind, h3 W hW]; exact h4 W hW⟩
theorem Grows.bind {e : Sem α} {f : α → Sem β} (h : Grows P e) (hf : ∀ a, Grows P (f a)) : Grows P (e >>= f) := fun w b w' hr => by
  rw [Sem.run_bind] at hr
  obtain ⟨a, w1, h1, h2⟩ := andThen_ok hr
  exact (h w a w1 h1).trans (hf a w1 b w' h2)
theorem Blank.ite {c : Prop} [Decidable c] {e f : Sem α} (h : Blank P e) (k : Blank P f) : Blank P (if c then e else f) := by split; exact h; exact k
theorem Stable.ite {c : Prop} [Decidable c] {e f : Sem α} (h : Stable P e) (k : Stable P f) : Stable P (if c then e else f) := by split; exact h; exact k
theorem Grows.ite {c : Prop} [Decidable c] {e f : Sem α} (h : Grows P e) (k : Grows P f) : Grows P (if c then e else f) := by split; exact h; exact k

theorem Blank.typeInfo (t : TypeId) : Blank P (Go.typeInfo t) := by
  unfold Go.typeInfo; refine Blank.bind Blank.program fun p => ?_; split; exact Blank.pure _; exact Blank.stuck _
theorem Blank.underlying (t : TypeId) : Blank P (Go.underlying t) := by
  unfold Go.underlying; refine Blank.bind Blank.program fun p => ?_; split; exact Blank.pure _; exact Blank.stuck _
theorem Blank.sizeOf (t : TypeId) : Blank P (Go.sizeOf t) := Blank.bind (Blank.typeInfo t) fun _ => Blank.pure _
theorem Blank.isAgg (t : TypeId) : Blank P (Go.isAgg t) := by
  unfold Go.isAgg; refine Blank.bind (Blank.underlying t) fun d => ?_; split <;> exact Blank.pure _
theorem Blank.zeroValue (t : TypeId) : Blank P (Go.zeroValue t) := by
  unfold Go.zeroValue; refine Blank.bind (Blank.typeInfo t) fun d => ?_; split; exact Blank.pure _; exact Blank.unsupported _
theorem Blank.part (t : TypeId) (cs : Array Value) (off : Nat) : Blank P (Go.part t cs off) := by
  unfold Go.part
  refine Blank.bind (Blank.isAgg t) fun b => Blank.ite (Blank.bind (Blank.sizeOf t) fun _ => Blank.pure _) ?_
  split; exact Blank.pure _; exact Blank.stuck _
theorem Blank.asBool (v : Value) : Blank P (Go.asBool v) := by unfold Go.asBool; split; exact Blank.pure _; exact Blank.stuck _
theorem Blank.asIntOf (v : Value) : Blank P (Go.asIntOf v) := by unfold Go.asIntOf; split; exact Blank.pure _; exact Blank.unsupported _; exact Blank.stuck _
theorem Blank.asInt (v : Value) : Blank P (Go.asInt v) := Blank.bind (Blank.asIntOf v) fun _ => Blank.pure _
theorem Blank.asAgg (v : Value) : Blank P (Go.asAgg v) := by unfold Go.asAgg; split; exact Blank.pure _; exact Blank.stuck _

theorem seen_ext {w W : World} (hW : HExt w W) {at_ : Addr} {u : TypeId} {k : Addr} {b : Bool} {r} (h : w.seen P at_ u k b = .ok r) : W.seen P at_ u k b = .ok r := by
  have hs : ∀ o, w.heap[at_.block]? = some o → W.seen P at_ u k b = w.seen P at_ u k b := fun o ho => by
    unfold World.seen; rw [ho, hW _ _ ho]
  cases hb : w.heap[at_.block]? with
  | some o => rw [hs o hb]; exact h
  | none =>
    exfalso
    unfold World.seen at h
    rw [hb] at h
    simp only [bind, Except.bind, pure, Except.pure, throw, throwThe, MonadExceptOf.throw] at h
    repeat (split at h <;> try (cases h; done))
theorem viewLoad_ext {w W : World} (hW : HExt w W) {at_ : Addr} {u : TypeId} {k : Addr} {b : Bool} {r} (h : w.viewLoad P at_ u k b = .ok r) : W.viewLoad P at_ u k b = .ok r := by
  unfold World.viewLoad at h ⊢
  cases hs : w.seen P at_ u k b with
  | error e => rw [hs] at h; cases h
  | ok x => rw [hs] at h; rw [seen_ext hW hs]; exact h
theorem Stable.load (a : Addr) : Stable P (Go.load a) := fun w b w' h => by
  unfold Go.load at h ⊢
  simp only [Sem.run] at h ⊢
  cases hc : w.cell? a with
  | some v =>
    rw [hc] at h
    cases h
    exact ⟨rfl, fun W hW => by rw [hW.cell hc]⟩
  | none =>
    rw [hc] at h
    simp only [World.farLoad] at h
    cases hb : w.heap[a.block]? with
    | none => rw [hb] at h; cases h
    | some o =>
      rw [hb] at h
      cases o <;> try (cases h; done)
      case view at_ u =>
        dsimp only at h
        cases hv : w.viewLoad P at_ u a (Mode.plain == Mode.atomic) with
        | error e => rw [hv] at h; cases h
        | ok r =>
          rw [hv] at h
          obtain ⟨v, l⟩ := r
          cases h
          refine ⟨rfl, fun W hW => ?_⟩
          have hb' := hW _ _ hb
          have hc' : W.cell? a = none := by simp [World.cell?, hb']
          rw [hc']
          simp only [World.farLoad, hb', viewLoad_ext hW hv, Sem.run]
theorem Stable.getObj (r : Nat) : Stable P (Go.getObj r) := fun w b w' h => by
  unfold Go.getObj at h ⊢
  simp only [Sem.run] at h ⊢
  cases hb : w.heap[r]? with
  | none => rw [hb] at h; cases h
  | some o =>
    rw [hb] at h
    cases o <;> first | (cases h; done) | (cases h; exact ⟨rfl, fun W hW => by rw [hW _ _ hb]⟩)
theorem Grows.newObj (o : Obj) : Grows P (Go.newObj o) := fun w b w' h => by
  cases h
  intro k o hk
  show (w.heap.push _)[k]? = some o
  rw [Array.getElem?_push, if_neg (by have := (Array.getElem?_eq_some_iff.1 hk).1; omega)]
  exact hk
theorem Stable.loadCellsFrom (a : Addr) : ∀ (n i : Nat) (acc : Array Value), Stable P (Go.loadCellsFrom a i n acc)
  | 0, _, _ => (Blank.pure _).stable
  | n + 1, i, acc => Stable.bind (Stable.load _) fun v => Stable.loadCellsFrom a n (i + 1) (acc.push v)
theorem Stable.loadVar (t : TypeId) (a : Addr) : Stable P (Go.loadVar t a) := by
  unfold Go.loadVar
  refine Stable.bind (Blank.isAgg t).stable fun b => Stable.ite ?_ (Stable.load a)
  refine Stable.bind (Blank.sizeOf t).stable fun n => ?_
  refine Stable.bind (Stable.loadCellsFrom a n 0 #[]) fun _ => (Blank.pure _).stable
theorem Blank.forIn_list {γ : Type} (body : γ → β → Sem (ForInStep β)) (hb : ∀ x s, Blank P (body x s)) : ∀ (l : List γ) (s : β), Blank P (forIn l s body)
  | [], s => Blank.pure s
  | x :: l, s => by
    rw [List.forIn_cons]
    refine Blank.bind (hb x s) fun r => ?_
    cases r with
    | done b => exact Blank.pure b
    | yield b => exact Blank.forIn_list body hb l b
theorem Blank.forIn_array {γ : Type} (body : γ → β → Sem (ForInStep β)) (hb : ∀ x s, Blank P (body x s)) (l : Array γ) (s : β) : Blank P (forIn l s body) := by
  rw [← Array.forIn_toList]
  exact Blank.forIn_list body hb _ s
theorem Blank.forIn_range (body : Nat → β → Sem (ForInStep β)) (hb : ∀ x s, Blank P (body x s)) (n : Nat) (s : β) : Blank P (forIn [0:n] s body) := by
  rw [Std.Legacy.Range.forIn_eq_forIn_range']
  exact Blank.forIn_list body hb _ s
/-- It never ends well: nothing is owed. -/
def Dead (P : Program) {α : Type} (e : Sem α) : Prop := ∀ w a w', e.run P w ≠ .ok a w'
theorem Dead.blank {e : Sem α} (h : Dead P e) : Blank P e := fun w a w' hr => absurd hr (h w a w')
theorem Dead.halt (h : Halt) : Dead P (Sem.halt h : Sem α) := fun w b w' h => by cases h
theorem Dead.bind {e : Sem α} {f : α → Sem β} (hf : ∀ a, Dead P (f a)) : Dead P (e >>= f) := fun w b w' hr => by
  rw [Sem.run_bind] at hr
  obtain ⟨a, w1, _, h2⟩ := andThen_ok hr
  exact hf a w1 b w' h2
theorem Dead.runtimePanic (e : RuntimeError) : Dead P (Go.runtimePanic e : Sem α) := by
  unfold Go.runtimePanic
  refine Dead.bind fun p => ?_
  cases e <;> dsimp only <;> (first | exact Dead.halt _ | (refine Dead.bind fun _ => ?_; first | exact Dead.halt _ | (refine Dead.bind fun _ => ?_; first | exact Dead.halt _ | exact Dead.bind fun _ => Dead.halt _)))
theorem Dead.boundsPanic (k : IntKind) (x y : Int) (c : BoundsCode) : Dead P (Go.boundsPanic k x y c : Sem α) := by
  unfold Go.boundsPanic
  dsimp only
  split <;> exact Dead.bind fun p => Dead.runtimePanic _
theorem Blank.bindP {e : Sem α} {f : α → Sem β} {Q : α → Prop} (h : Blank P e) (hq : ∀ w a w', e.run P w = .ok a w' → Q a) (hf : ∀ a, Q a → Blank P (f a)) : Blank P (e >>= f) := fun w b w' hr => by
  rw [Sem.run_bind] at hr
  obtain ⟨a, w1, h1, h2⟩ := andThen_ok hr
  obtain ⟨rfl, h3⟩ := h w a w1 h1
  obtain ⟨rfl, h4⟩ := hf a (hq _ _ _ h1) w1 b w' h2
  exact ⟨rfl, fun W => by rw [Sem.run_bind, h3 W]; exact h4 W⟩
def plain1 : Value → Bool
  | .int _ _ | .bool _ | .string _ => true
  | _ => false
def plainV : Value → Bool
  | .agg cs => cs.all plain1
  | v => plain1 v
def nilV : Value → Bool
  | .pointer none | .map none | .slice none _ _ | .nilFunc | .chan none => true
  | _ => false
theorem plain_part {t : TypeId} {cs : Array Value} {off : Nat} (h : cs.all plain1 = true) (w : World) (a : Value) (w' : World) (hr : (Go.part t cs off).run P w = .ok a w') : plainV a = true := by
  unfold Go.part at hr
  rw [Sem.run_bind] at hr
  obtain ⟨b, w1, h1, h2⟩ := andThen_ok hr
  cases b with
  | true =>
    simp only [if_true] at h2
    rw [Sem.run_bind] at h2
    obtain ⟨n, w2, h3, h4⟩ := andThen_ok h2
    cases h4
    simp only [plainV]
    rw [Array.all_eq_true_iff_forall_mem] at h ⊢
    intro x hx
    refine h x ?_
    obtain ⟨i, hi, rfl⟩ := Array.getElem_of_mem hx
    simp only [Array.getElem_extract]
    exact Array.getElem_mem _
  | false =>
    simp only [Bool.false_eq_true, if_false] at h2
    cases hc : cs[off]? with
    | none => rw [hc] at h2; cases h2
    | some v =>
      rw [hc] at h2
      cases h2
      obtain ⟨hi, hv⟩ := Array.getElem?_eq_some_iff.1 hc
      have := (Array.all_eq_true_iff_forall_mem.1 h) cs[off] (Array.getElem_mem hi)
      rw [hv] at this
      cases a <;> simp_all [plainV, plain1]
theorem Blank.equalIn : ∀ (d : Nat) (t : TypeId) (x y : Value), plainV x = true → plainV y = true → Blank P (Op.equalIn d t x y)
  | 0, _, _, _, _, _ => Blank.unsupported _
  | d + 1, t, x, y, hx, hy => by
    unfold Op.equalIn
    refine Blank.bind (Blank.underlying t) fun u => ?_
    split
    all_goals first
      | exact Blank.pure _
      | exact Blank.stuck _
      | exact Blank.unsupported _
      | (exfalso; simp [plainV, plain1] at hx; done)
      | (exfalso; simp [plainV, plain1] at hy; done)
      | exact Blank.ite (Blank.pure _) (Blank.stuck _)
      | skip
    · rename_i fields xs ys
      refine Blank.bind Blank.program fun p => Blank.ite (Blank.unsupported _) ?_
      refine Blank.bind (Blank.forIn_array _ (fun f s => ?_) _ _) fun r => ?_
      · refine Blank.ite ?_ (Blank.pure _)
        refine Blank.bindP (Q := fun v => plainV v = true) (Blank.part _ _ _) (plain_part (by simpa [plainV] using hx)) fun a ha => ?_
        refine Blank.bindP (Q := fun v => plainV v = true) (Blank.part _ _ _) (plain_part (by simpa [plainV] using hy)) fun b hb => ?_
        refine Blank.bind (Blank.equalIn d _ a b ha hb) fun r => ?_
        refine Blank.ite ?_ ?_ <;> exact Blank.pure _
      · dsimp only
        split <;> exact Blank.pure _
    · rename_i len elem xs ys
      refine Blank.bind (Blank.sizeOf _) fun n => ?_
      refine Blank.bind (Blank.forIn_range _ (fun i s => ?_) _ _) fun r => ?_
      · refine Blank.bindP (Q := fun v => plainV v = true) (Blank.part _ _ _) (plain_part (by simpa [plainV] using hx)) fun a ha => ?_
        refine Blank.bindP (Q := fun v => plainV v = true) (Blank.part _ _ _) (plain_part (by simpa [plainV] using hy)) fun b hb => ?_
        refine Blank.bind (Blank.equalIn d _ a b ha hb) fun r => ?_
        refine Blank.ite ?_ ?_ <;> exact Blank.pure _
      · dsimp only
        split <;> exact Blank.pure _
end
end Go.Proofs.Ytopfknikmhkaeaa
