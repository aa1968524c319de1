/- Rows of unsigned numbers that are given; a slice of numbers as a thing beside others. No conditions. -/
import Derived.Test.YtopfknikmhkaeaaOpen
import Derived.Test.YtopfknikmhkaeaaStar
import Derived.Test.YtopfknikmhkaeaaSlB
namespace Go.Proofs.Ytopfknikmhkaeaa
open Go.RowKit
set_option linter.unusedSimpArgs false
set_option linter.unusedVariables false
abbrev uint1 (n : Int) : List Value := [.int .u64 n]
def UintOK (n : Int) : Prop := 0 ≤ n ∧ n ≤ 18446744073709551615
theorem uint_wf {n : Int} (h : (Lit.int .u64 n).wf = true) : UintOK n := by
  have hmin : IntKind.u64.min = 0 := by decide
  have hmax : IntKind.u64.max = 18446744073709551615 := by decide
  simp [Lit.wf] at h; rw [hmin, hmax] at h; exact h
theorem leaf_uint (cs : List Value) (h : leafAll [.int .u64] cs) : ∃ x : Int, uint1 x = cs ∧ UintOK x := by
  obtain ⟨hl, h⟩ := h
  obtain ⟨a, ha, m, rfl, hw⟩ := h 0 _ rfl
  match cs, hl, ha with
  | [_], _, rfl => exact ⟨m, rfl, uint_wf hw⟩
theorem uints_get : ∀ (xs : List Int) (j : Nat) (x : Int), xs[j]? = some x → (xs.flatMap uint1)[j]? = some (.int .u64 x)
  | [], j, x, h => by simp at h
  | y :: r, 0, x, h => by simp at h; subst h; rfl
  | y :: r, j + 1, x, h => by simp at h; simpa using uints_get r j x h
theorem Rd.uint {w : World} {v : Value} {xs : List Int} (h : Rd w 1 v (xs.flatMap uint1)) {j : Nat} {x : Int} (hx : xs[j]? = some x) :
    ∃ g off n cap, v = .slice (some ⟨g, off, none⟩) n cap ∧ g < w.heap.size ∧ w.cell? ⟨g, off + j, none⟩ = some (.int .u64 x) := by
  have hj := uints_get xs j x hx
  obtain ⟨g, off, n', cap', heq, hgl, hcs, hl⟩ := Rd.form h (by intro e; rw [e] at hj; cases hj)
  exact ⟨g, off, n', cap', heq, hgl, hcs _ _ hj⟩
theorem info_ofG {e : TypeId} {z : Value} {s b : Nat} (h : (Try.prog.info? e).map (fun i => (i.zero, i.size, i.bytes)) = some (some z, s, b)) : ∃ i, Try.prog.info? e = some i ∧ i.zero = some z ∧ i.size = s ∧ i.bytes = b := by
  cases hi : Try.prog.info? e with
  | none => rw [hi] at h; cases h
  | some i =>
    rw [hi] at h
    simp only [Option.map_some, Option.some.injEq, Prod.mk.injEq] at h
    exact ⟨i, rfl, h.1, h.2.1, h.2.2⟩
/-- A slice in blocks of its own. -/
def SlT (e : TypeId) (sz : Nat) (v : Value) (cs : List Value) : Thing := fun w S => Sl w e sz v cs ∧ ∀ k, v.ownBlock = some k → S k
theorem SlT.steady (e : TypeId) (sz : Nat) (v : Value) (cs : List Value) : Steady (SlT e sz v cs) where
  fr := fun ⟨h1, h2⟩ hf hn => ⟨h1.fr hf (fun k hk => hn k (h2 k hk) (h1.lt hk)), h2⟩
  cut := fun ⟨h1, h2⟩ => ⟨h1, fun k hk => ⟨h2 k hk, h1.lt hk⟩⟩
  wide := fun ⟨h1, h2⟩ hs => ⟨h1, fun k hk => hs k (h2 k hk)⟩
theorem SlT.nil (e : TypeId) (sz : Nat) (w : World) (S : Nat → Prop) : SlT e sz (.slice none 0 0) [] w S := ⟨Sl.nil _ _ _, fun k hk => (by cases hk)⟩
theorem Held.repl {T1 T2 T2' : Thing} {w W : World} {P : Nat → Prop} (h : Held P W w (Star T1 T2)) (hx : ∀ S, T2 w S → T2' w S) : Held P W w (Star T1 T2') :=
  let ⟨S, ⟨S1, S2, a, b, c, d, e⟩, f, g⟩ := h
  ⟨S, ⟨S1, S2, a, hx _ b, c, d, e⟩, f, g⟩
/-- A new slice in an old one's stead: its block is the old one's or a new one. -/
theorem Held.slice {T : Thing} {w w1 W : World} {P : Nat → Prop} {e : TypeId} {sz : Nat} {v v1 : Value} {cs cs1 : List Value} (h : Held P W w (Star T (SlT e sz v cs))) (ht : Steady T) (hP : ∀ k, P k → k < w.heap.size)
    (hs : Sl w1 e sz v1 cs1) (ho : ∀ k, v1.ownBlock = some k → v.ownBlock = some k ∨ w.heap.size ≤ k) (hf : Fr (fun k => v.ownBlock = some k) w w1) : Held P W w1 (Star T (SlT e sz v1 cs1)) ∧ ∀ k o, P k → ob w k = some o → ob w1 k = some o := by
  obtain ⟨h1, h2⟩ := h.swap.stepd (T1' := SlT e sz v1 cs1) (w1 := w1) ht (SlT.steady _ _ _ _) hP (fun S hS hlt => ⟨⟨hs, fun k hk => (ho k hk).imp (hS.2 k) id⟩, hf.mono (fun k _ hk => hS.2 k hk)⟩)
  exact ⟨h1.swap, h2⟩
end Go.Proofs.Ytopfknikmhkaeaa
