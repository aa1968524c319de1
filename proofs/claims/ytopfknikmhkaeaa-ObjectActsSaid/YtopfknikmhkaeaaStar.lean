/- Things in memory side by side, each in blocks of its own: what turns one leaves the others. No conditions. -/
import Derived.Test.YtopfknikmhkaeaaHeap
namespace Go.Proofs.Ytopfknikmhkaeaa
open Go.RowKit
set_option linter.unusedSimpArgs false
set_option linter.unusedVariables false
set_option linter.unusedSectionVars false
/-- Something in memory, in blocks of S. -/
abbrev Thing := World → (Nat → Prop) → Prop
/-- It stands as long as its blocks do. -/
structure Steady (T : Thing) : Prop where
  fr : ∀ {w w1 : World} {S S2 : Nat → Prop}, T w S → Fr S2 w w1 → (∀ k, S k → k < w.heap.size → ¬ S2 k) → T w1 S
  cut : ∀ {w : World} {S : Nat → Prop}, T w S → T w (fun k => S k ∧ k < w.heap.size)
  wide : ∀ {w : World} {S S2 : Nat → Prop}, T w S → (∀ k, S k → S2 k) → T w S2
def Star (T1 T2 : Thing) : Thing := fun w S => ∃ S1 S2, T1 w S1 ∧ T2 w S2 ∧ (∀ k, S1 k → ¬ S2 k) ∧ (∀ k, S1 k → S k) ∧ ∀ k, S2 k → S k
section
variable {T T1 T2 T3 T1' T2' : Thing} {w w1 W : World} {S S2 P P2 : Nat → Prop}
theorem Steady.keep (ht : Steady T) (h : T w S) (hf : Fr (fun _ => False) w w1) : T w1 S := ht.fr h hf (fun _ _ _ h => h)
theorem Steady.star (h1 : Steady T1) (h2 : Steady T2) : Steady (Star T1 T2) where
  fr := fun ⟨S1, S2, a, b, c, d, e⟩ hf hn => ⟨S1, S2, h1.fr a hf (fun k hk => hn k (d k hk)), h2.fr b hf (fun k hk => hn k (e k hk)), c, d, e⟩
  cut := fun ⟨S1, S2, a, b, c, d, e⟩ => ⟨_, _, h1.cut a, h2.cut b, fun k hk hk2 => c k hk.1 hk2.1, fun k hk => ⟨d k hk.1, hk.2⟩, fun k hk => ⟨e k hk.1, hk.2⟩⟩
  wide := fun ⟨S1, S2, a, b, c, d, e⟩ hs => ⟨S1, S2, a, b, c, fun k hk => hs k (d k hk), fun k hk => hs k (e k hk)⟩
theorem Star.swap (h : Star T1 T2 w S) : Star T2 T1 w S := let ⟨S1, S2, a, b, c, d, e⟩ := h; ⟨S2, S1, b, a, fun k h1 h2 => c k h2 h1, e, d⟩
theorem Star.rot (h : Star T1 (Star T2 T3) w S) : Star T2 (Star T3 T1) w S :=
  let ⟨S1, S23, a, ⟨S2, S3, b, c, hd, h2, h3⟩, hd1, h1, h23⟩ := h
  ⟨S2, fun k => S3 k ∨ S1 k, b, ⟨S3, S1, c, a, fun k h3' h1' => hd1 k h1' (h3 k h3'), fun k h => .inl h, fun k h => .inr h⟩, fun k h2' h => h.elim (hd k h2') (fun h1' => hd1 k h1' (h2 k h2')), fun k h => h23 k (h2 k h), fun k h => h.elim (fun h => h23 k (h3 k h)) (h1 k)⟩
/-- A thing that a law's function made, the blocks of P beside it, and all else as it was. -/
def Held (P : Nat → Prop) (W w : World) (T : Thing) : Prop := ∃ S, T w S ∧ (∀ k, S k → W.heap.size ≤ k ∧ ¬ P k ∧ k < w.heap.size) ∧ Fr (fun _ => False) W w
theorem Held.mk (ht : Steady T) (h : T w S) (hs : ∀ k, S k → W.heap.size ≤ k ∧ ¬ P k) (hf : Fr (fun _ => False) W w) : Held P W w T :=
  ⟨_, ht.cut h, fun k hk => ⟨(hs k hk.1).1, (hs k hk.1).2, hk.2⟩, hf⟩
theorem Held.hf (h : Held P W w T) : Fr (fun _ => False) W w := let ⟨_, _, _, h⟩ := h; h
theorem Held.at (h : Held P W w T) : ∃ S, T w S := let ⟨S, h, _⟩ := h; ⟨S, h⟩
theorem Held.left (h : Held P W w (Star T1 T2)) : ∃ S, T1 w S := let ⟨_, ⟨S1, _, h, _⟩, _⟩ := h; ⟨S1, h⟩
theorem Held.right (h : Held P W w (Star T1 T2)) : ∃ S, T2 w S := let ⟨_, ⟨_, S2, _, h, _⟩, _⟩ := h; ⟨S2, h⟩
theorem Held.swap (h : Held P W w (Star T1 T2)) : Held P W w (Star T2 T1) := let ⟨S, a, b⟩ := h; ⟨S, a.swap, b⟩
theorem Held.rot (h : Held P W w (Star T1 (Star T2 T3))) : Held P W w (Star T2 (Star T3 T1)) := let ⟨S, a, b⟩ := h; ⟨S, a.rot, b⟩
theorem Held.keep (h : Held P W w T) (ht : Steady T) (hf : Fr (fun _ => False) w w1) : Held P W w1 T :=
  let ⟨S, a, b, c⟩ := h
  ⟨S, ht.keep a hf, fun k hk => ⟨(b k hk).1, (b k hk).2.1, by have := (b k hk).2.2; have := hf.size; omega⟩, ⟨hf.os.trans c.os, hf.tape.trans c.tape, hf.output.trans c.output, Nat.le_trans c.size hf.size, fun k hk hn => (hf.block k (Nat.lt_of_lt_of_le hk c.size) hn).trans (c.block k hk hn)⟩⟩
/-- Other blocks beside it: none of them was there. -/
theorem Held.safe (h : Held P W w T) (hP : ∀ k, P2 k → ¬ P k → w.heap.size ≤ k) : Held P2 W w T :=
  let ⟨S, a, b, c⟩ := h
  ⟨S, a, fun k hk => ⟨(b k hk).1, fun hp => by
    have := hP k hp (b k hk).2.1
    have := (b k hk).2.2; omega, (b k hk).2.2⟩, c⟩
/-- A new thing beside it. -/
theorem Held.add (h : Held P W w T) (ht : Steady T) (ht2 : Steady T2) (hf : Fr (fun _ => False) w w1) (h2 : T2 w1 S2) (hs : ∀ k, S2 k → w.heap.size ≤ k ∧ ¬ P k) : Held P W w1 (Star T2 T) := by
  have h' := h.keep ht hf
  obtain ⟨S, a, b, c⟩ := h
  obtain ⟨-, -, -, c'⟩ := h'
  refine ⟨fun k => (S2 k ∧ k < w1.heap.size) ∨ S k, ⟨_, S, ht2.cut h2, ht.keep a hf, fun k hk hk2 => ?_, fun k hk => .inl hk, fun k hk => .inr hk⟩, fun k hk => ?_, c'⟩
  · have := (hs k hk.1).1; have := (b k hk2).2.2; omega
  · rcases hk with hk | hk
    · exact ⟨Nat.le_trans c.size (hs k hk.1).1, (hs k hk.1).2, hk.2⟩
    · exact ⟨(b k hk).1, (b k hk).2.1, by have := (b k hk).2.2; have := hf.size; omega⟩
theorem Held.drop (h : Held P W w (Star T1 T2)) : Held P W w T2 := let ⟨S, ⟨S1, S2, a, b, c, d, e⟩, f, g⟩ := h; ⟨S2, b, fun k hk => f k (e k hk), g⟩
/-- A step in the first thing. -/
theorem Held.stepd (ht : Steady T2) (ht1 : Steady T1') (h : Held P W w (Star T1 T2)) (hP : ∀ k, P k → k < w.heap.size)
    (hs : ∀ S, T1 w S → (∀ k, S k → k < w.heap.size) → T1' w1 (fun k => S k ∨ w.heap.size ≤ k) ∧ Fr S w w1) : Held P W w1 (Star T1' T2) ∧ ∀ k o, P k → ob w k = some o → ob w1 k = some o := by
  obtain ⟨S, ⟨S1, S2, a, b, c, d, e⟩, f, g⟩ := h
  obtain ⟨x, y⟩ := hs S1 a (fun k hk => (f k (d k hk)).2.2)
  refine ⟨⟨fun k => ((S1 k ∨ w.heap.size ≤ k) ∧ k < w1.heap.size) ∨ S2 k, ⟨_, S2, ht1.cut x, ht.fr b y (fun k h2 _ h1 => c k h1 h2), fun k hk h2 => ?_, fun k hk => .inl hk, fun k hk => .inr hk⟩, fun k hk => ?_, ?_⟩, fun k o hp ho => y.keep (fun h1 => (f k (d k h1)).2.1 hp) ho⟩
  · rcases hk.1 with h | h
    · exact c k h h2
    · have := (f k (e k h2)).2.2; omega
  · rcases hk with ⟨hk | hk, hk2⟩ | hk
    · exact ⟨(f k (d k hk)).1, (f k (d k hk)).2.1, hk2⟩
    · exact ⟨Nat.le_trans g.size hk, fun hp => by have := hP k hp; omega, hk2⟩
    · exact ⟨(f k (e k hk)).1, (f k (e k hk)).2.1, by have := (f k (e k hk)).2.2; have := y.size; omega⟩
  · exact g.step y (fun k hk => .inr (f k (d k hk)).1)
end
/-- A call that turns the first thing. -/
theorem Held.call {Pg : Program} {T1 T2 : Thing} {T1' : Thing} {w W : World} {P : Nat → Prop} {f : FuncId} {args : Array Value} {R : Ending → Prop} (ht : Steady T2) (ht1 : Steady T1') (h : Held P W w (Star T1 T2)) (hP : ∀ k, P k → k < w.heap.size)
    (hc : ∀ S, T1 w S → Calls Pg f args w fun e w' => R e ∧ T1' w' (fun k => S k ∨ w.heap.size ≤ k) ∧ Fr S w w') :
    Calls Pg f args w fun e w' => R e ∧ Held P W w' (Star T1' T2) ∧ ∀ k o, P k → ob w k = some o → ob w' k = some o := by
  obtain ⟨S, ⟨S1, S2, a, b, c, d, e⟩, f, g⟩ := h
  refine (hc S1 a).mono ?_
  rintro en w' ⟨hR, x, y⟩
  refine ⟨hR, Held.stepd ht ht1 (T1 := fun w' S => S = S1 ∧ w' = w) (w := w) ⟨S, ⟨S1, S2, ⟨rfl, rfl⟩, b, c, d, e⟩, f, g⟩ hP ?_⟩
  rintro S' ⟨rfl, -⟩ -
  exact ⟨x, y⟩
/-- The same, where what the first thing becomes is told by the call. -/
theorem Held.callX {Pg : Program} {ι : Type} {T1 T2 : Thing} {T1' : ι → Thing} {w W : World} {P : Nat → Prop} {f : FuncId} {args : Array Value} {R : Ending → ι → Prop} (ht : Steady T2) (ht1 : ∀ i, Steady (T1' i)) (h : Held P W w (Star T1 T2)) (hP : ∀ k, P k → k < w.heap.size)
    (hc : ∀ S, T1 w S → Calls Pg f args w fun e w' => ∃ i, R e i ∧ T1' i w' (fun k => S k ∨ w.heap.size ≤ k) ∧ Fr S w w') :
    Calls Pg f args w fun e w' => ∃ i, R e i ∧ Held P W w' (Star (T1' i) T2) ∧ ∀ k o, P k → ob w k = some o → ob w' k = some o := by
  obtain ⟨S, ⟨S1, S2, a, b, c, d, e⟩, f, g⟩ := h
  refine (hc S1 a).mono ?_
  rintro en w' ⟨i, hR, x, y⟩
  refine ⟨i, hR, Held.stepd ht (ht1 i) (T1 := fun w' S => S = S1 ∧ w' = w) (w := w) ⟨S, ⟨S1, S2, ⟨rfl, rfl⟩, b, c, d, e⟩, f, g⟩ hP ?_⟩
  rintro S' ⟨rfl, -⟩ -
  exact ⟨x, y⟩
end Go.Proofs.Ytopfknikmhkaeaa
