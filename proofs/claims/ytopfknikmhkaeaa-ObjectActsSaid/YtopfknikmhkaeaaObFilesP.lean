/- ObjectFiles, in plain Lean: objects that are made one after the other. No conditions. -/
import Derived.Test.YtopfknikmhkaeaaObWith
import Derived.Test.YtopfknikmhkaeaaObLives
namespace Go.Proofs.Ytopfknikmhkaeaa
open Go.RowKit
set_option linter.unusedSimpArgs false
set_option linter.unusedVariables false
theorem alSet_set {κ α : Type} [DecidableEq κ] : ∀ (l : List (κ × α)) (k : κ) (v v' : α), alSet (alSet l k v) k v' = alSet l k v'
  | [], k, v, v' => by simp [alSet]
  | (x, u) :: l, k, v, v' => by
    by_cases h : x = k
    · simp [alSet, h]
    · simp [alSet, h, alSet_set l k v v']
/-- The objects numbered s+1, s+2 .. of these files, each with one page at k that tells which it is. -/
def mkF (k : Int) : Nat → List Int → List (Int × Obt)
  | _, [] => []
  | s, f :: r => ((s : Int) + 1, (f, 1, [(k, ((s : Int), 0, false))])) :: mkF k (s + 1) r
theorem mkF_len (k : Int) : ∀ (s : Nat) (fs : List Int), (mkF k s fs).length = fs.length
  | _, [] => rfl
  | s, f :: r => by simp [mkF, mkF_len k (s + 1) r]
theorem mkF_snoc (k : Int) (f : Int) : ∀ (s : Nat) (fs : List Int), mkF k s (fs ++ [f]) = mkF k s fs ++ [(((s + fs.length : Nat) : Int) + 1, (f, 1, [(k, (((s + fs.length : Nat) : Int), 0, false))]))]
  | s, [] => by simp [mkF]
  | s, g :: r => by
    have e : s + 1 + r.length = s + (r.length + 1) := by omega
    simp only [List.cons_append, mkF, mkF_snoc k f (s + 1) r, List.length_cons, e]
theorem mkF_get (k : Int) : ∀ (s : Nat) (fs : List Int) (i : Nat) (f : Int), fs[i]? = some f → alGet (mkF k s fs) (((s + i : Nat) : Int) + 1) = some (f, 1, [(k, (((s + i : Nat) : Int), 0, false))])
  | s, [], i, f, h => by simp at h
  | s, g :: r, 0, f, h => by
    simp only [List.getElem?_cons_zero, Option.some.injEq] at h
    subst h
    simp [mkF, alGet]
  | s, g :: r, i + 1, f, h => by
    simp only [List.getElem?_cons_succ] at h
    have e : s + (i + 1) = s + 1 + i := by omega
    have hne : ¬ ((s : Int) + 1 = ((s + 1 + i : Nat) : Int) + 1) := by omega
    rw [e]
    simp only [mkF, alGet, if_neg hne]
    exact mkF_get k (s + 1) r i f h
theorem mkF_mem (k : Int) : ∀ (s : Nat) (fs : List Int) (x : Int), x ∈ (mkF k s fs).map (·.1) ↔ ∃ i, i < fs.length ∧ x = ((s + i : Nat) : Int) + 1
  | s, [], x => by simp [mkF]
  | s, f :: r, x => by
    simp only [mkF, List.map_cons, List.mem_cons, mkF_mem k (s + 1) r x, List.length_cons]
    constructor
    · rintro (h | ⟨i, hi, h⟩)
      · exact ⟨0, by omega, by simpa using h⟩
      · exact ⟨i + 1, by omega, by rw [h]; congr 2; omega⟩
    · rintro ⟨i, hi, h⟩
      cases i with
      | zero => exact .inl (by simpa using h)
      | succ i => exact .inr ⟨i, by omega, by rw [h]; congr 2; omega⟩
theorem mkF_new (k : Int) (fs : List Int) : ((fs.length : Int) + 1) ∉ (mkF k 0 fs).map (·.1) := fun h => by
  obtain ⟨i, hi, h⟩ := (mkF_mem k 0 fs _).1 h
  omega
theorem wf_small {n : Int} (h0 : 0 ≤ n) (h1 : n ≤ 1000000) : wf64 n := by
  have hmin : IntKind.i64.min = -9223372036854775808 := by decide
  have hmax : IntKind.i64.max = 9223372036854775807 := by decide
  unfold wf64
  simp [Lit.wf, hmin, hmax]
  omega
theorem mkF_keys (k : Int) (fs : List Int) (h : fs.length ≤ 40) : ObKeys (mkF k 0 fs) := by
  refine ⟨fun x hx => ?_, by rw [mkF_len]; omega⟩
  obtain ⟨i, hi, rfl⟩ := (mkF_mem k 0 fs x).1 hx
  exact wf_small (by omega) (by omega)
theorem mkF_file (k : Int) {fs : List Int} {i : Nat} {f : Int} (h : fs[i]? = some f) : fileR (mkF k 0 fs) ((i : Int) + 1) = f := by
  have := mkF_get k 0 fs i f h
  rw [Nat.zero_add] at this
  unfold fileR
  rw [this]; rfl
theorem mkF_page (k : Int) {fs : List Int} {i : Nat} {f : Int} (h : fs[i]? = some f) : getR' (mkF k 0 fs) ((i : Int) + 1) k = some ((i : Int), 0, false) := by
  have := mkF_get k 0 fs i f h
  rw [Nat.zero_add] at this
  unfold getR'
  rw [this]
  simp [alGet]
theorem mkF_lowest (k : Int) {fs : List Int} {id : Int} (h : Lowest (mkF k 0 fs) id) : id = (fs.length : Int) + 1 := by
  obtain ⟨h1, h2, h3⟩ := h
  refine Decidable.byContradiction fun hne => ?_
  rcases Int.lt_or_gt_of_ne hne with hlt | hgt
  · obtain ⟨i, hi⟩ : ∃ i : Nat, id = (i : Int) + 1 := ⟨(id - 1).toNat, by omega⟩
    have hil : i < fs.length := by omega
    have := mkF_get k 0 fs i _ (List.getElem?_eq_getElem hil)
    rw [Nat.zero_add, ← hi, h2] at this
    cases this
  · exact h3 _ (by omega) hgt (alGet_none_of _ _ (mkF_new k fs))
theorem mkF_of_pos (k : Int) (fs : List Int) (f : Int) : 0 < ofR (mkF k 0 fs) f ↔ (0 < f ∧ f ∈ fs) := by
  rcases ofR_cases (mkF k 0 fs) f with ⟨h1, h2⟩ | ⟨x, hx, h1, h2, h3⟩
  · rw [h1]
    refine ⟨fun h => absurd h (by omega), fun ⟨h0, hf⟩ => ?_⟩
    obtain ⟨i, hi, he⟩ := List.mem_iff_getElem.1 hf
    have hfi : fs[i]? = some f := by rw [List.getElem?_eq_getElem hi, he]
    exact absurd ⟨h0, mkF_file k hfi⟩ (h2 _ ((mkF_mem k 0 fs _).2 ⟨i, hi, by simp⟩))
  · obtain ⟨i, hi, rfl⟩ := (mkF_mem k 0 fs x).1 hx
    have hfi : fs[i]? = some fs[i] := List.getElem?_eq_getElem hi
    rw [Nat.zero_add, mkF_file k hfi] at h2
    rw [h3]
    exact ⟨fun _ => ⟨h1, by rw [← h2]; exact List.getElem_mem hi⟩, fun _ => by omega⟩
/-- No file twice. -/
def FD (fs : List Int) : Prop := ∀ (i j : Nat) (f : Int), fs[i]? = some f → fs[j]? = some f → 0 < f → i = j
theorem mkF_of (k : Int) {fs : List Int} (hd : FD fs) {i : Nat} {f : Int} (h : fs[i]? = some f) (h0 : 0 < f) : ofR (mkF k 0 fs) f = (i : Int) + 1 := by
  have hil : i < fs.length := (List.getElem?_eq_some_iff.1 h).1
  refine ofR_one h0 ((mkF_mem k 0 fs _).2 ⟨i, hil, by simp⟩) (mkF_file k h) (fun x hx hf => ?_)
  obtain ⟨j, hj, rfl⟩ := (mkF_mem k 0 fs x).1 hx
  have hfj : fs[j]? = some fs[j] := List.getElem?_eq_getElem hj
  rw [Nat.zero_add, mkF_file k hfj] at hf
  rw [hf] at hfj
  have := hd i j f h hfj h0
  subst this
  simp
theorem FD.snoc {fs : List Int} (h : FD fs) {f : Int} (hf : ¬ (0 < f ∧ f ∈ fs)) : FD (fs ++ [f]) := by
  intro i j g hi hj h0
  rw [List.getElem?_append] at hi hj
  split at hi <;> split at hj
  · exact h i j g hi hj h0
  · exfalso
    simp only [List.getElem?_singleton] at hj
    split at hj
    · cases hj; exact hf ⟨h0, List.mem_of_getElem? hi⟩
    · cases hj
  · exfalso
    simp only [List.getElem?_singleton] at hi
    split at hi
    · cases hi; exact hf ⟨h0, List.mem_of_getElem? hj⟩
    · cases hi
  · simp only [List.getElem?_singleton] at hi hj
    split at hi <;> split at hj
    · omega
    · cases hj
    · cases hi
    · cases hi
theorem mkF_make {k f id er : Int} {fs : List Int} {l' : List (Int × Obt)} (h : MakeR 40 (mkF k 0 fs) f id er l') (hf : 0 ≤ f) (hl : fs.length < 40) :
    (0 < f ∧ f ∈ fs ∧ id = 0 ∧ er = 8 ∧ l' = mkF k 0 fs) ∨ (¬ (0 < f ∧ f ∈ fs) ∧ er = 0 ∧ id = (fs.length : Int) + 1 ∧ l' = alSet (mkF k 0 fs) ((fs.length : Int) + 1) (f, 1, [])) := by
  have hp := mkF_of_pos k fs f
  rcases h with ⟨h, _⟩ | ⟨_, h, h1, h2, h3⟩ | ⟨_, _, h, _⟩ | ⟨_, h, _, h1, h2, h3⟩
  · omega
  · exact .inl ⟨(hp.1 h).1, (hp.1 h).2, h1, h2, h3⟩
  · rw [mkF_len] at h; omega
  · have := mkF_lowest k h2
    subst this
    exact .inr ⟨fun hc => h (hp.2 hc), h1, rfl, h3⟩
theorem mkF_put {k f : Int} (h0 : 0 ≤ k) (h1 : k < 4096) (fs : List Int) : putR (alSet (mkF k 0 fs) ((fs.length : Int) + 1) (f, 1, [])) ((fs.length : Int) + 1) k ((fs.length : Int), 0, false) = (0, mkF k 0 (fs ++ [f])) := by
  unfold putR
  rw [alGet_set, if_pos rfl]
  simp only
  rw [if_neg (by omega), alSet_set, alSet_new _ _ _ (mkF_new k fs), mkF_snoc, Nat.zero_add]
  rfl
theorem Held.sliceA {T : Thing} {w w1 W : World} {P : Nat → Prop} {e : TypeId} {sz : Nat} {v v1 : Value} {cs cs1 : List Value} (h : Held P W w (Star T (SlT e sz v cs))) (ht : Steady T) (hP : ∀ k, P k → k < w.heap.size)
    (hs : Sl w1 e sz v1 cs1) (ho : v1.ownBlock = v.ownBlock ∨ ∃ k, v1.ownBlock = some k ∧ w.heap.size ≤ k) (hf : Fr (fun k => v.ownBlock = some k) w w1) : Held P W w1 (Star T (SlT e sz v1 cs1)) :=
  (h.slice ht hP hs (fun k hk => ho.elim (fun e => .inl (by rw [← e]; exact hk)) (fun ⟨q, hq, hle⟩ => .inr (by rw [hq] at hk; cases hk; exact hle))) hf).1
/-- The numbers 1 .. n. -/
def upto (n : Nat) : List Int := (List.range n).map fun i : Nat => (i : Int) + 1
theorem upto_succ (n : Nat) : upto (n + 1) = upto n ++ [(n : Int) + 1] := by simp [upto, List.range_succ]
theorem upto_get {n i : Nat} (h : i < n) : (upto n)[i]? = some ((i : Int) + 1) := by simp [upto, h]
theorem upto_len (n : Nat) : (upto n).length = n := by simp [upto]
end Go.Proofs.Ytopfknikmhkaeaa
