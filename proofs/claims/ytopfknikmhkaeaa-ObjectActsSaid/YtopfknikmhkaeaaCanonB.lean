/- Which operations only reckon, which only read, which only make new blocks. No conditions. -/
import Derived.Test.YtopfknikmhkaeaaCanon
namespace Go.Proofs.Ytopfknikmhkaeaa
open Go.RowKit
set_option linter.unusedSimpArgs false
set_option linter.unusedVariables false
section
variable {P : Program} {α β : Type}
theorem Stable.shapeBind {r : Nat} {f : Option (TypeId × Nat) → Sem β} (hn : Dead P (f none)) (hf : ∀ x, Stable P (f (some x))) : Stable P (Go.shape r >>= f) := fun w b w' hr => by
  have e : ∀ W : World, (Go.shape r >>= f).run P W = (f (W.shape? r)).run P W := fun W => by rw [Sem.run_bind]; rfl
  rw [e] at hr
  cases hs : w.shape? r with
  | none => rw [hs] at hr; exact absurd hr (hn w b w')
  | some x =>
    rw [hs] at hr
    obtain ⟨rfl, h⟩ := hf x w b w' hr
    refine ⟨rfl, fun W hW => ?_⟩
    rw [e]
    have : W.shape? r = some x := by
      unfold World.shape? at hs ⊢
      cases hb : w'.heap[r]? with
      | none => rw [hb] at hs; cases hs
      | some o => rw [hb] at hs; rw [hW _ _ hb]; exact hs
    rw [this]
    exact h W hW
theorem Stable.shapeOr {γ : Type} {r : Nat} {g : Obj → Sem γ} (hg : ∀ o, Stable P (g o)) (v : γ) :
    Stable P (Go.shape r >>= fun s => if s.isSome = true then Pure.pure v else Go.getObj r >>= g) := fun w b w' hr => by
  have e : ∀ W : World, (Go.shape r >>= fun s => if s.isSome = true then Pure.pure v else Go.getObj r >>= g).run P W = if (W.shape? r).isSome then .ok v W else (Go.getObj r >>= g).run P W := fun W => by
    rw [Sem.run_bind]
    show ((if (W.shape? r).isSome = true then _ else _ : Sem γ)).run P W = _
    split <;> rfl
  rw [e] at hr
  by_cases hs : (w.shape? r).isSome = true
  · rw [if_pos hs] at hr
    cases hr
    refine ⟨rfl, fun W hW => ?_⟩
    rw [e, if_pos]
    cases hb : w.heap[r]? with
    | none => simp [World.shape?, hb] at hs
    | some o => 
      have := hW _ _ hb
      simpa [World.shape?, this, hb] using hs
  · rw [if_neg hs] at hr
    obtain ⟨rfl, h⟩ := (Stable.bind (Stable.getObj r) hg) w b w' hr
    refine ⟨rfl, fun W hW => ?_⟩
    rw [e, if_neg]
    · exact h W hW
    · cases hb : w'.heap[r]? with
      | none =>
        rw [Sem.run_bind] at hr
        obtain ⟨o, w1, h1, _⟩ := andThen_ok hr
        simp [Go.getObj, Sem.run, hb] at h1
      | some o => 
        have := hW _ _ hb
        simpa [World.shape?, this, hb] using hs
theorem Stable.viewAt (r : Nat) : Stable P (Go.viewAt r) := Stable.shapeOr (fun o => by split <;> exact (Blank.pure _).stable) _
theorem Stable.numberAt (r : Nat) : Stable P (Go.numberAt r) := Stable.shapeOr (fun o => by split <;> exact (Blank.pure _).stable) _
theorem Stable.noView (a : Addr) : Stable P (Go.noView a) := by
  unfold Go.noView
  exact Stable.bind (Stable.viewAt _) fun _ => Stable.ite (Blank.unsupported _).stable (Blank.pure _).stable
theorem Stable.behindNumber (a : Addr) : Stable P (Go.behindNumber a) := Stable.bind (Stable.numberAt _) fun _ => (Blank.pure _).stable
theorem Stable.byteOf (a : Addr) : Stable P (Go.byteOf a) := by
  unfold Go.byteOf
  split
  · exact (Blank.pure _).stable
  · refine Stable.bind Blank.program.stable fun p => Stable.bind (Stable.noView a) fun _ => Stable.shapeBind ?_ fun x => ?_
    · exact Dead.halt _
    · obtain ⟨e, n⟩ := x
      dsimp only
      refine Stable.ite (Blank.pure _).stable ?_
      split
      · exact (Blank.pure _).stable
      · exact (Blank.stuck _).stable
theorem Stable.forIn_list {γ : Type} (body : γ → β → Sem (ForInStep β)) : ∀ (l : List γ) (s : β), (∀ x ∈ l, ∀ s, Stable P (body x s)) → Stable P (forIn l s body)
  | [], s, _ => (Blank.pure s).stable
  | x :: l, s, hb => by
    rw [List.forIn_cons]
    refine Stable.bind (hb x (by simp) s) fun r => ?_
    cases r with
    | done b => exact (Blank.pure b).stable
    | yield b => exact Stable.forIn_list body l b (fun y hy => hb y (by simp [hy]))
theorem Stable.forIn_array {γ : Type} (body : γ → β → Sem (ForInStep β)) (l : Array γ) (s : β) (hb : ∀ x ∈ l, ∀ s, Stable P (body x s)) : Stable P (forIn l s body) := by
  rw [← Array.forIn_toList]
  exact Stable.forIn_list body _ s (fun x hx => hb x (by simpa using hx))
theorem run_underlying_of {t : TypeId} {u : TypeDesc} {w w' : World} (h : (Go.underlying t).run P w = .ok u w') : P.underlying t = some u := by
  unfold Go.underlying at h
  rw [Sem.run_bind] at h
  obtain ⟨p, w1, h1, h2⟩ := andThen_ok h
  cases h1
  cases hu : P.underlying t with
  | none => rw [hu] at h2; cases h2
  | some v => rw [hu] at h2; cases h2; rfl
theorem Stable.bindU {t : TypeId} {f : TypeDesc → Sem β} (hf : ∀ u, P.underlying t = some u → Stable P (f u)) : Stable P (Go.underlying t >>= f) := fun w b w' hr => by
  rw [Sem.run_bind] at hr
  obtain ⟨u, w1, h1, h2⟩ := andThen_ok hr
  have hu := run_underlying_of h1
  obtain ⟨rfl, h3⟩ := (Blank.underlying (P := P) t) w u w1 h1
  obtain ⟨rfl, h4⟩ := hf u hu w1 b w' h2
  exact ⟨rfl, fun W hW => by rw [Sem.run_bind, h3 W]; exact h4 W hW⟩
theorem Blank.bindU {t : TypeId} {f : TypeDesc → Sem β} (hf : ∀ u, P.underlying t = some u → Blank P (f u)) : Blank P (Go.underlying t >>= f) := fun w b w' hr => by
  rw [Sem.run_bind] at hr
  obtain ⟨u, w1, h1, h2⟩ := andThen_ok hr
  have hu := run_underlying_of h1
  obtain ⟨rfl, h3⟩ := (Blank.underlying (P := P) t) w u w1 h1
  obtain ⟨rfl, h4⟩ := hf u hu w1 b w' h2
  exact ⟨rfl, fun W => by rw [Sem.run_bind, h3 W]; exact h4 W⟩
theorem Stable.equalIn : ∀ (d : Nat) (t : TypeId) (n : Nat) (x y : Value), eqPlain P n t = true → Stable P (Op.equalIn d t x y)
  | 0, _, _, _, _, _ => (Blank.unsupported _).stable
  | d + 1, t, 0, x, y, h => by simp [eqPlain] at h
  | d + 1, t, n + 1, x, y, h => by
    unfold Op.equalIn
    refine Stable.bindU fun u hu => ?_
    simp only [eqPlain, hu] at h
    split
    all_goals first
      | exact (Blank.pure _).stable
      | exact (Blank.stuck _).stable
      | exact (Blank.unsupported _).stable
      | exact (Blank.ite (Blank.pure _) (Blank.stuck _)).stable
      | (exfalso; simp at h; done)
      | skip
    · refine Stable.bind (Stable.behindNumber _) fun a => Stable.bind (Stable.behindNumber _) fun b => Stable.bind Blank.program.stable fun p => Stable.ite ?_ ?_
      · exact Stable.bind (Stable.byteOf _) fun _ => Stable.bind (Stable.byteOf _) fun _ => (Blank.pure _).stable
      · refine Stable.bind (Blank.typeInfo _).stable fun i => ?_
        split
        · exact (Blank.ite (Blank.pure _) (Blank.unsupported _)).stable
        · exact (Blank.unsupported _).stable
    · rename_i fields xs ys
      simp only [Array.all_eq_true_iff_forall_mem] at h
      refine Stable.bind Blank.program.stable fun p => Stable.ite (Blank.unsupported _).stable ?_
      refine Stable.bind (Stable.forIn_array _ _ _ (fun f hf s => ?_)) fun r => ?_
      · refine Stable.ite ?_ (Blank.pure _).stable
        refine Stable.bind (Blank.part _ _ _).stable fun a => ?_
        refine Stable.bind (Blank.part _ _ _).stable fun b => ?_
        refine Stable.bind (Stable.equalIn d _ n a b (h f hf)) fun r => ?_
        refine Stable.ite ?_ ?_ <;> exact (Blank.pure _).stable
      · dsimp only
        split <;> exact (Blank.pure _).stable
end
end Go.Proofs.Ytopfknikmhkaeaa
