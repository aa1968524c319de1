/- object.Pool: the contracts beside other things in memory; what Of gives; pages compared. Conditions: as in XObMake. -/
import Derived.Test.YtopfknikmhkaeaaObMake
namespace Go.Proofs.Ytopfknikmhkaeaa
open Go.RowKit
set_option linter.unusedSimpArgs false
set_option linter.unusedVariables false
attribute [local go_sem] Oper.semAt_some
/-! ### Pages compared -/
def pgeq (a b : Int) (c : Bool) (x y : Int) (z : Bool) : Bool := a == x && b == y && c == z
theorem pgeq_iff {a b : Int} {c : Bool} {x y : Int} {z : Bool} : pgeq a b c x y z = true ↔ (a, b, c) = (x, y, z) := by
  simp [pgeq, and_assoc]
theorem eqin_pg (a b : Int) (c : Bool) (x y : Int) (z : Bool) (w : World) : (Op.equalIn 10000 34 (.agg #[.int .i64 a, .int .i64 b, .bool c]) (.agg #[.int .i64 x, .int .i64 y, .bool z])).run Try.prog w = .ok (pgeq a b c x y z) w := by
  unfold pgeq
  have u3 := Try.underlying3
  have a3 := Try.isAgg3
  have z3 := Try.sizeOf3
  have u4 := Try.underlying4
  have a4 := Try.isAgg4
  have z4 := Try.sizeOf4
  have hS : Try.prog.underlying 34 = some (.struct (Try.prog.fieldsOf 34)) := by kernel_rfl
  rw [show (10000 : Nat) = 9999 + 1 from rfl, run_equalIn_agg w 9999 34 _ _ hS (by kernel_rfl)]
  simp only [Program.fieldsOf, Try.underlying34]
  go_simp
  by_cases h1 : a = x <;> by_cases h2 : b = y <;> cases c <;> cases z <;> simp [h1, h2]
def eqPg (a b : Int) (c : Bool) (x y : Int) (z : Bool) : Sem Value := binOp .eql 34 (.agg #[.int .i64 a, .int .i64 b, .bool c]) (.agg #[.int .i64 x, .int .i64 y, .bool z])
def nePg (a b : Int) (c : Bool) (x y : Int) (z : Bool) : Sem Value := binOp .neq 34 (.agg #[.int .i64 a, .int .i64 b, .bool c]) (.agg #[.int .i64 x, .int .i64 y, .bool z])
@[go_sem high] theorem to_eqPg (a b : Int) (c : Bool) (x y : Int) (z : Bool) : binOp .eql 34 (.agg #[.int .i64 a, .int .i64 b, .bool c]) (.agg #[.int .i64 x, .int .i64 y, .bool z]) = eqPg a b c x y z := rfl
@[go_sem high] theorem to_nePg (a b : Int) (c : Bool) (x y : Int) (z : Bool) : binOp .neq 34 (.agg #[.int .i64 a, .int .i64 b, .bool c]) (.agg #[.int .i64 x, .int .i64 y, .bool z]) = nePg a b c x y z := rfl
@[go_sem] theorem run_eqPg (a b : Int) (c : Bool) (x y : Int) (z : Bool) (w : World) : (eqPg a b c x y z).run Try.prog w = .ok (.bool (pgeq a b c x y z)) w := by
  change Sem.run Try.prog (Op.equalIn 10000 34 _ _ >>= _) w = _
  rw [Sem.run_bind, eqin_pg]
  rfl
@[go_sem] theorem run_nePg (a b : Int) (c : Bool) (x y : Int) (z : Bool) (w : World) : (nePg a b c x y z).run Try.prog w = .ok (.bool (!pgeq a b c x y z)) w := by
  change Sem.run Try.prog (Op.equalIn 10000 34 _ _ >>= _) w = _
  rw [Sem.run_bind, eqin_pg]
  rfl
/-! ### What Of gives -/
theorem mem_idsOf {α : Type} {l : List (Int × α)} {k : Int} : k ∈ idsOf l ↔ k ∈ l.map (·.1) := (idsOf_perm l).mem_iff
theorem ofR_cases (l : List (Int × Obt)) (file : Int) : (ofR l file = 0 ∧ ∀ k ∈ l.map (·.1), ¬ (0 < file ∧ fileR l k = file)) ∨ ∃ k ∈ l.map (·.1), 0 < file ∧ fileR l k = file ∧ ofR l file = k := by
  unfold ofR
  rcases h : (idsOf l).find? (fun id => decide (0 < file) && decide (fileR l id = file)) with _ | k
  · refine .inl ⟨rfl, fun k hk hc => ?_⟩
    have := List.find?_eq_none.1 h k (mem_idsOf.2 hk)
    simp [hc.1, hc.2] at this
  · have h1 := List.find?_some h
    simp only [Bool.and_eq_true, decide_eq_true_eq] at h1
    exact .inr ⟨k, mem_idsOf.1 (List.mem_of_find?_eq_some h), h1.1, h1.2, rfl⟩
theorem ofR_none {l : List (Int × Obt)} {file : Int} (h : ∀ k ∈ l.map (·.1), fileR l k = file → file ≤ 0) : ofR l file = 0 := by
  rcases ofR_cases l file with h1 | ⟨k, hk, h1, h2, _⟩
  · exact h1.1
  · have := h k hk h2; omega
theorem ofR_one {l : List (Int × Obt)} {file id : Int} (h0 : 0 < file) (hm : id ∈ l.map (·.1)) (hf : fileR l id = file) (hu : ∀ k ∈ l.map (·.1), fileR l k = file → k = id) : ofR l file = id := by
  rcases ofR_cases l file with h1 | ⟨k, hk, h1, h2, h3⟩
  · exact absurd ⟨h0, hf⟩ (h1.2 id hm)
  · rw [h3]; exact hu k hk h2
/-! ### Beside other things -/
def Emp : Thing := fun _ _ => True
theorem Emp.steady : Steady Emp := ⟨fun _ _ _ => trivial, fun _ => trivial, fun _ _ => trivial⟩
section
variable {w w1 W : World} {b : Nat} {most : Int} {l : List (Int × Obt)} {P : Nat → Prop} {T : Thing}
theorem newH (n : Int) (h0 : 0 ≤ n) (h1 : n ≤ 4096) (hf : Fr (fun _ => False) W w) (hP : ∀ k, P k → k < w.heap.size) :
    Calls Try.prog 8 #[.int .i64 n] w fun e w' => ∃ b, e = .returned (.pointer (some ⟨b, 0, none⟩)) ∧ Held P W w' (Star (ObX b n []) Emp) ∧ Fr (fun _ => False) w w' := by
  refine (new_any n h0 h1 w).mono ?_
  rintro e w' ⟨b, m, rfl, hT, hf2, hb, hm⟩
  refine ⟨b, rfl, Held.mk (S := fun k => w.heap.size ≤ k) ((ObX.steady b n []).star Emp.steady) ⟨fun k => w.heap.size ≤ k, fun _ => False, ⟨m, [], hT, rfl, fun q hq => ?_⟩, trivial, fun _ _ h => h, fun _ h => h, fun _ h => h.elim⟩ (fun k hk => ⟨Nat.le_trans hf.size hk, fun hp => ?_⟩) (hf.step hf2 (fun _ h => h.elim)), hf2⟩
  · rcases hq with rfl | rfl | ⟨k, e, he, _⟩
    · exact hb
    · exact hm
    · cases he
  · have := hP k hp; omega
theorem putH (h : Held P W w (Star (ObX b most l) T)) (ht : Steady T) (hP : ∀ k, P k → k < w.heap.size) (id ix : Int) (x : Pg) :
    Calls Try.prog 12 #[.pointer (some ⟨b, 0, none⟩), .int .i64 id, .int .i64 ix, pgV x] w fun e w' =>
      e = .returned (.int .i64 (putR l id ix x).1) ∧ Held P W w' (Star (ObX b most (putR l id ix x).2) T) ∧ ∀ k o, P k → ob w k = some o → ob w' k = some o :=
  Held.call (R := fun e => e = .returned (.int .i64 (putR l id ix x).1)) ht (ObX.steady _ _ _) h hP (fun S hS => (put_any hS id ix x).mono fun e w' ⟨a, c, d⟩ => ⟨a, (ObX.steady _ _ _).wide c (fun _ h => .inl h), d⟩)
theorem refH (h : Held P W w (Star (ObX b most l) T)) (ht : Steady T) (hP : ∀ k, P k → k < w.heap.size) (id x : Int) (hr : ∀ o, alGet l id = some o → 0 ≤ o.2.1 ∧ o.2.1 ≤ 1000000) :
    Calls Try.prog 11 #[.pointer (some ⟨b, 0, none⟩), .int .i64 id, .int .i64 x] w fun e w' =>
      e = .returned (.tuple #[.int .i64 (refR l id x).1, .int .i64 (refR l id x).2.1]) ∧ Held P W w' (Star (ObX b most (refR l id x).2.2) T) ∧ ∀ k o, P k → ob w k = some o → ob w' k = some o :=
  Held.call (R := fun e => e = .returned (.tuple #[.int .i64 (refR l id x).1, .int .i64 (refR l id x).2.1])) ht (ObX.steady _ _ _) h hP (fun S hS => (ref_any hS id x hr).mono fun e w' ⟨a, c, d⟩ => ⟨a, (ObX.steady _ _ _).wide c (fun _ h => .inl h), d⟩)
theorem dropH (h : Held P W w (Star (ObX b most l) T)) (ht : Steady T) (hP : ∀ k, P k → k < w.heap.size) (id ix : Int) :
    Calls Try.prog 16 #[.pointer (some ⟨b, 0, none⟩), .int .i64 id, .int .i64 ix] w fun e w' =>
      e = .returned (.bool (dropR l id ix).1) ∧ Held P W w' (Star (ObX b most (dropR l id ix).2) T) ∧ ∀ k o, P k → ob w k = some o → ob w' k = some o :=
  Held.call (R := fun e => e = .returned (.bool (dropR l id ix).1)) ht (ObX.steady _ _ _) h hP (fun S hS => (drop_any hS id ix).mono fun e w' ⟨a, c, d⟩ => ⟨a, (ObX.steady _ _ _).wide c (fun _ h => .inl h), d⟩)
theorem makeH (h : Held P W w (Star (ObX b most l) T)) (ht : Steady T) (hP : ∀ k, P k → k < w.heap.size) (hk : ObKeys l) (file : Int) :
    Calls Try.prog 10 #[.pointer (some ⟨b, 0, none⟩), .int .i64 file] w fun e w' =>
      ∃ id er l', e = .returned (.tuple #[.int .i64 id, .int .i64 er]) ∧ MakeR most l file id er l' ∧ Held P W w' (Star (ObX b most l') T) ∧ ∀ k o, P k → ob w k = some o → ob w' k = some o := by
  refine (Held.callX (ι := Int × Int × List (Int × Obt)) (T1' := fun i => ObX b most i.2.2) (R := fun e i => e = .returned (.tuple #[.int .i64 i.1, .int .i64 i.2.1]) ∧ MakeR most l file i.1 i.2.1 i.2.2) ht (fun i => ObX.steady _ _ _) h hP (fun S hS => (make_any hS hk file).mono fun e w' ⟨id, er, a, l', c, d, f⟩ => ⟨(id, er, l'), ⟨a, c⟩, d, f⟩)).mono ?_
  rintro e w' ⟨⟨id, er, l'⟩, ⟨rfl, hm⟩, hH, hk⟩
  exact ⟨id, er, l', rfl, hm, hH, hk⟩
end
theorem lowest_nil {α : Type} {id : Int} (h : Lowest ([] : List (Int × α)) id) : id = 1 := by
  obtain ⟨h1, _, h3⟩ := h
  refine Decidable.byContradiction fun hc => h3 1 (by omega) (by omega) rfl
theorem make_nil {most file id er : Int} {l' : List (Int × Obt)} (h : MakeR most [] file id er l') (hm : 0 < most) (hf : 0 ≤ file) : id = 1 ∧ er = 0 ∧ l' = [(1, (file, 1, []))] := by
  have ho : ofR [] file = 0 := ofR_none (by simp)
  rcases h with ⟨h, _⟩ | ⟨_, h, _⟩ | ⟨_, _, h, _⟩ | ⟨_, _, _, h1, h2, h3⟩
  · omega
  · omega
  · simp at h; omega
  · have := lowest_nil h2
    subst this
    exact ⟨rfl, h1, h3⟩
end Go.Proofs.Ytopfknikmhkaeaa
