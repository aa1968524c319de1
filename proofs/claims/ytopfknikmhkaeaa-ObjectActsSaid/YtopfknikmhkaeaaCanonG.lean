/- The law of drawn regions, where loads stand beside an append: the loads come first in the order; the append writes none of their blocks. -/
import Derived.Test.YtopfknikmhkaeaaHeap
namespace Go.Proofs.Ytopfknikmhkaeaa
open Go.RowKit
set_option linter.unusedSimpArgs false
set_option linter.unusedVariables false
/-- What a piece leaves true. -/
def KeepsI (P : Program) (I : World → Prop) {α : Type} (e : Sem α) : Prop := ∀ w a w', I w → e.run P w = .ok a w' → I w'
/-- The blocks qs are as they were in w0; the slice kv lies in a row that may be written. -/
def SS (qs : List Nat) (kv : Value) (w0 w : World) : Prop :=
  (∀ q ∈ qs, ob w q = ob w0 q) ∧ ∀ g, kv.ownBlock = some g → ∃ row e, ob w g = some (.cells row e (0, 0))
section
variable {P : Program} {I : World → Prop} {α β : Type}
theorem KeepsI.of_stable {e : Sem α} (h : Stable P e) : KeepsI P I e := fun w a w' hi hr => by rw [(h w a w' hr).1]; exact hi
theorem KeepsI.blank {e : Sem α} (h : Blank P e) : KeepsI P I e := KeepsI.of_stable h.stable
theorem KeepsI.bind {e : Sem α} {f : α → Sem β} (h : KeepsI P I e) (hf : ∀ a, KeepsI P I (f a)) : KeepsI P I (e >>= f) := fun w b w' hi hr => by
  rw [Sem.run_bind] at hr
  obtain ⟨a, w1, h1, h2⟩ := andThen_ok hr
  exact hf a w1 b w' (h w a w1 hi h1) h2
theorem KeepsI.ite {c : Prop} [Decidable c] {e f : Sem α} (h : KeepsI P I e) (k : KeepsI P I f) : KeepsI P I (if c then e else f) := by split; exact h; exact k
theorem KeepsI.grows (hI : ∀ w w', I w → HExt w w' → I w') {e : Sem α} (h : Grows P e) : KeepsI P I e := fun w a w' hi hr => hI w w' hi (h w a w' hr)
theorem Grows.choose (c : Question) : Grows P (Go.choose c) := fun w b w' h => by
  unfold Go.choose at h
  simp only [Sem.run] at h
  split at h <;> (cases h; exact HExt.refl _)
theorem Grows.mark (c : Mark) : Grows P (Go.mark c) := fun w b w' h => by
  cases h; exact HExt.refl _
theorem Grows.frozen (c : Addr) : Grows P (Go.frozen c) := fun w b w' h => by
  cases h; exact HExt.refl _
theorem Grows.shape (c : Nat) : Grows P (Go.shape c) := fun w b w' h => by
  cases h; exact HExt.refl _
theorem SS.ext {qs : List Nat} {kv : Value} {w0 : World} (hq : ∀ q ∈ qs, ∃ o, ob w0 q = some o) : ∀ w w', SS qs kv w0 w → HExt w w' → SS qs kv w0 w' := fun w w' h hE =>
  ⟨fun q hm => by
    obtain ⟨o, ho⟩ := hq q hm
    rw [ho]
    exact hE q o ((h.1 q hm).trans ho), fun g hg => by
    obtain ⟨row, e, hr⟩ := h.2 g hg
    exact ⟨row, e, hE g _ hr⟩⟩
theorem SS.store {qs : List Nat} {g off n cap : Nat} {w0 : World} (hg : g ∉ qs) (a : Addr) (ha : a.block = g) (v : Value) : KeepsI P (SS qs (.slice (some ⟨g, off, none⟩) n cap) w0) (Go.store a v) := fun w b w' hi hr => by
  obtain ⟨row, e, ho⟩ := hi.2 g rfl
  have key : (Go.store a v).run P w = .ok b w' → w' = w.setCell a v := by
    intro hr
    unfold Go.store at hr
    cases v <;> simp only [Sem.run] at hr <;> try (cases hr; done)
    all_goals
      cases hc : w.cell? a with
      | some u =>
        rw [hc] at hr
        dsimp only at hr
        split at hr
        · cases hr
        · cases hr; rfl
      | none =>
        rw [hc] at hr
        dsimp only at hr
        have : w.heap[a.block]? = some (.cells row e (0, 0)) := by rw [ha]; exact ho
        simp only [World.farStore, this] at hr
        cases hr
  rw [key hr]
  refine ⟨fun q hq => ?_, fun g' hg' => ?_⟩
  · rw [ob_setCell w a v q (fun e => hg (by rw [← ha, ← e]; exact hq))]
    exact hi.1 q hq
  · cases hg'
    obtain ⟨bl, o, sp⟩ := a
    subst ha
    refine ⟨if sp.isSome then row else row.setIfInBounds o v, e, ?_⟩
    unfold ob World.setCell at *
    simp [Array.getElem?_modify, ho]
theorem SS.storeCells {qs : List Nat} {g off n cap : Nat} {w0 : World} (hg : g ∉ qs) (a : Addr) (ha : a.block = g) : ∀ (vs : List Value) (i : Nat), KeepsI P (SS qs (.slice (some ⟨g, off, none⟩) n cap) w0) (Go.storeCells a vs i)
  | [], i => KeepsI.blank (Blank.pure _)
  | v :: rest, i => by
    unfold Go.storeCells
    refine KeepsI.bind (SS.store hg _ ?_ v) fun _ => SS.storeCells hg a ha rest (i + 1)
    unfold Addr.add
    split <;> exact ha
theorem Stable.firstCells (size n : Nat) (x : Value) : Stable P (Builtin.firstCells size n x) := by
  unfold Builtin.firstCells
  split
  · exact Stable.loadCellsFrom _ _ _ _
  · exact (Blank.pure _).stable
  · exact (Blank.pure _).stable
  · exact (Blank.stuck _).stable
theorem Blank.lenOf (x : Value) : Blank P (Builtin.lenOf x) := by unfold Builtin.lenOf; split <;> first | exact Blank.pure _ | exact Blank.stuck _
theorem Grows.askRoom (n : Nat) : Grows P (Go.askRoom n) := by
  unfold Go.askRoom
  exact Grows.ite (Grows.mark _) (Blank.pure _).stable.grows
theorem Grows.mayShare (a b c : Nat) (d : Option Addr) (x : Value) : Grows P (Builtin.mayShare a b c d x) := by
  unfold Builtin.mayShare Builtin.holdsCells
  dsimp only
  repeat' (first
    | exact (Blank.pure _).stable.grows
    | exact Grows.shape _
    | exact Grows.frozen _
    | refine Grows.bind ?_ (fun _ => ?_)
    | refine Grows.ite ?_ ?_
    | split)
theorem SS.append {qs : List Nat} {kv : Value} {w0 : World} (hq : ∀ q ∈ qs, ∃ o, ob w0 q = some o) (hg : ∀ g, kv.ownBlock = some g → g ∉ qs) (hkv : ∃ ao n cap, kv = .slice ao n cap ∧ ∀ a, ao = some a → a.spot = none) (ts : Array TypeId) (ty : TypeId) (x : Value) :
    KeepsI P (SS qs kv w0) (Builtin.append_ ts ty #[kv, x]) := by
  have hx := SS.ext (kv := kv) hq
  have D : ∀ {α : Type} {e : Sem α}, Dead P e → KeepsI P (SS qs kv w0) e := fun h w a w' _ hr => absurd hr (h _ _ _)
  obtain ⟨ao, n, cap, rfl, hsp⟩ := hkv
  unfold Builtin.append_
  split
  case h_2 => exact D (Dead.halt _)
  case h_1 ht =>
  rename_i pr sT s x'
  have hs : s = .slice ao n cap := by simp_all
  subst hs
  refine KeepsI.bind (KeepsI.blank (Blank.underlying _)) fun u => ?_
  split
  case h_2 => exact D (Dead.halt _)
  case h_1 =>
  rename_i elem
  refine KeepsI.bind (KeepsI.blank (Blank.sizeOf elem)) fun size => ?_
  extract_lets jp5 jp0
  have h5 : ∀ u, KeepsI P (SS qs (.slice ao n cap) w0) (jp5 u) := fun u => D (Dead.halt _)
  have h0 : ∀ z, KeepsI P (SS qs (.slice ao n cap) w0) (jp0 z) := by
    intro z
    simp -zeta only [jp0]
    extract_lets jp1
    have h1 : ∀ m, KeepsI P (SS qs (.slice ao n cap) w0) (jp1 m) := by
      intro m
      simp -zeta only [jp1]
      extract_lets appended need jp2 jp4 jp3
      have ha : KeepsI P (SS qs (.slice ao n cap) w0) appended := by
        simp -zeta only [appended]
        refine KeepsI.ite (KeepsI.of_stable (Stable.firstCells _ _ _)) (KeepsI.ite (KeepsI.blank (Blank.pure _)) ?_)
        exact KeepsI.bind (KeepsI.blank (Blank.zeroValue _)) fun _ => KeepsI.blank (Blank.pure _)
      refine KeepsI.ite ?_ ?_
      · refine KeepsI.bind ha fun new => ?_
        have h2 : ∀ u, KeepsI P (SS qs (.slice ao n cap) w0) (jp2 u) := fun u => KeepsI.blank (Blank.pure _)
        split
        · rename_i a
          refine KeepsI.bind ?_ fun u => h2 u
          have hsp' := hsp a rfl
          obtain ⟨g, off, sp⟩ := a
          dsimp only at hsp'
          subst hsp'
          refine SS.storeCells (hg g rfl) _ ?_ _ _
          unfold Addr.add
          split <;> rfl
        · exact h2 ()
      · refine KeepsI.bind (KeepsI.blank (Blank.typeInfo _)) fun ti => ?_
        have h3 : ∀ u, KeepsI P (SS qs (.slice ao n cap) w0) (jp3 u) := by
          intro u
          simp -zeta only [jp3]
          refine KeepsI.bind (KeepsI.blank (Blank.typeInfo _)) fun ti2 => ?_
          have h4 : ∀ u, KeepsI P (SS qs (.slice ao n cap) w0) (jp4 u) := by
            intro u
            simp -zeta only [jp4]
            refine KeepsI.bind (KeepsI.grows hx (Grows.choose _)) fun nc => ?_
            refine KeepsI.bind (KeepsI.blank (Blank.typeInfo _)) fun ti3 => ?_
            refine KeepsI.bind (KeepsI.grows hx (Grows.askRoom _)) fun _ => ?_
            refine KeepsI.bind (KeepsI.of_stable (Stable.firstCells _ _ _)) fun old => ?_
            refine KeepsI.bind ha fun new => ?_
            refine KeepsI.bind (KeepsI.blank (Blank.zeroValue _)) fun zv => ?_
            extract_lets rest
            exact KeepsI.bind (KeepsI.grows hx (Grows.newRow _ _)) fun _ => KeepsI.blank (Blank.pure _)
          refine KeepsI.ite ?_ (h4 ())
          refine KeepsI.bind ?_ fun _ => h4 ()
          refine KeepsI.ite (D (Dead.runtimePanic _)) ?_
          refine KeepsI.bind (KeepsI.grows hx (Grows.mayShare _ _ _ _ _)) fun b => ?_
          exact KeepsI.ite (KeepsI.bind (KeepsI.grows hx (Grows.mark _)) fun _ => h5 ()) (h5 ())
        exact KeepsI.ite (D (Dead.runtimePanic _).bindL) (h3 ())
    refine KeepsI.ite ?_ (KeepsI.bind (KeepsI.blank (Blank.lenOf _)) fun m => h1 m)
    refine KeepsI.bind (KeepsI.blank (Blank.asInt _)) fun i => ?_
    extract_lets l jp7 jp6
    have h6 : ∀ u, KeepsI P (SS qs (.slice ao n cap) w0) (jp6 u) := by
      intro u
      simp -zeta only [jp6]
      refine KeepsI.bind (KeepsI.blank (Blank.typeInfo _)) fun ti => ?_
      have h7 : ∀ u, KeepsI P (SS qs (.slice ao n cap) w0) (jp7 u) := fun u => KeepsI.bind (KeepsI.blank (Blank.pure _)) fun m => h1 m
      exact KeepsI.ite (D (Dead.bind fun _ => (Dead.runtimePanic _).bindL)) (h7 ())
    exact KeepsI.ite (D (Dead.runtimePanic _).bindL) (h6 ())
  split
  · exact KeepsI.bind (KeepsI.blank (Blank.underlying _)) fun u => KeepsI.bind (KeepsI.blank (Blank.pure _)) fun z => h0 z
  · exact KeepsI.bind (KeepsI.blank (Blank.pure _)) fun z => h0 z
end
end Go.Proofs.Ytopfknikmhkaeaa
