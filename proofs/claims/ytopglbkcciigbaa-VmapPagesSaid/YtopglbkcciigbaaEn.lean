/- api.Entry: its cells, its equality, which of them may be. No conditions. -/
import Derived.Test.YtopglbkcciigbaaOpen
import Derived.Test.YtopglbkcciigbaaSlB
import Derived.Test.YtopglbkcciigbaaCanonH
import Derived.Deep.DeepCutAuto
import Derived.Deep.CutBlock
namespace Go.Proofs.Ytopglbkcciigbaa
open Go.RowKit
set_option linter.unusedSimpArgs false
set_option linter.unusedVariables false
theorem Fr.also {w w1 w2 : World} (h : Fr (fun _ => False) w w1) (k : Fr (fun _ => False) w1 w2) : Fr (fun _ => False) w w2 := h.step k (fun _ h => h.elim)
theorem info_of {P : Program} {e : TypeId} {z : Value} {s b : Nat} (h : (P.info? e).map (fun i => (i.zero, i.size, i.bytes)) = some (some z, s, b)) : ∃ i, P.info? e = some i ∧ i.zero = some z ∧ i.size = s ∧ i.bytes = b := by
  cases hi : P.info? e with
  | none => rw [hi] at h; cases h
  | some i => rw [hi] at h; simp at h; exact ⟨i, rfl, h.1, h.2.1, h.2.2⟩
/-- An entry. -/
structure Ent where
  s : Int
  e : Int
  f : Int
  o : Int
  sh : Bool
  pr : Int
  mx : Int
  inh : Int
  adv : Int
  wi : Bool
def Ent.eqb (x y : Ent) : Bool :=
  decide (x.s = y.s) && (decide (x.e = y.e) && (decide (x.f = y.f) && (decide (x.o = y.o) && (decide (x.sh = y.sh) && (decide (x.pr = y.pr) && (decide (x.mx = y.mx) && (decide (x.inh = y.inh) && (decide (x.adv = y.adv) && decide (x.wi = y.wi)))))))))
theorem Ent.eqb_iff {x y : Ent} : x.eqb y = true ↔ x = y := by
  cases x; cases y
  simp [Ent.eqb]
instance : DecidableEq Ent := fun x y => if h : x.eqb y = true then isTrue (Ent.eqb_iff.1 h) else isFalse (fun e => h (Ent.eqb_iff.2 e))
theorem Ent.eqb_dec (x y : Ent) : x.eqb y = decide (x = y) := by
  by_cases h : x = y
  · rw [Ent.eqb_iff.2 h]; simp [h]
  · cases h1 : x.eqb y
    · simp [h]
    · exact absurd (Ent.eqb_iff.1 h1) h
def ent (x : Ent) : List Value := [.int .i64 x.s, .int .i64 x.e, .int .i64 x.f, .int .i64 x.o, .bool x.sh, .int .i64 x.pr, .int .i64 x.mx, .int .i64 x.inh, .int .i64 x.adv, .bool x.wi]
theorem len_ents : ∀ (l : List Ent), (l.flatMap ent).length = l.length * 10
  | [] => rfl
  | x :: l => by simp only [List.flatMap_cons, List.length_append, len_ents l, List.length_cons]; simp [ent]; omega
theorem flat_ents : ∀ (l : List Ent) (j : Nat) (a : Ent), l[j]? = some a → ∀ i u, (ent a)[i]? = some u → (l.flatMap ent)[j * 10 + i]? = some u
  | [], j, a, h, _, _, _ => by simp at h
  | x :: l, 0, a, h, i, u, hu => by
    simp at h; subst h
    have hi : i < (ent x).length := (List.getElem?_eq_some_iff.1 hu).1
    simp only [List.flatMap_cons, Nat.zero_mul, Nat.zero_add]
    rw [List.getElem?_append_left hi]; exact hu
  | x :: l, j + 1, a, h, i, u, hu => by
    simp at h
    have ih := flat_ents l j a h i u hu
    simp only [List.flatMap_cons]
    rw [List.getElem?_append_right (by simp [ent]; omega)]
    rw [show (j + 1) * 10 + i - (ent x).length = j * 10 + i by simp [ent]; omega]
    exact ih
theorem one_ents (l : List Ent) : ∀ u ∈ l.flatMap ent, u.oneCell' = true := by
  intro u hu
  obtain ⟨x, _, hx⟩ := List.mem_flatMap.1 hu
  simp [ent] at hx
  rcases hx with rfl | rfl | rfl | rfl | rfl | rfl | rfl | rfl | rfl | rfl <;> rfl
theorem zeroEnt : (Try.prog.info? 28).map (fun i => (i.zero, i.size, i.bytes)) = some (some (.agg #[.int .i64 0, .int .i64 0, .int .i64 0, .int .i64 0, .bool false, .int .i64 0, .int .i64 0, .int .i64 0, .int .i64 0, .bool false]), 10, 80) := by kernel_rfl
/-- The ten cells of an entry that stands at a place. -/
def At10 (w : World) (g off : Nat) (x : Ent) : Prop :=
  w.cell? ⟨g, off, none⟩ = some (.int .i64 x.s) ∧ w.cell? ⟨g, off + 1, none⟩ = some (.int .i64 x.e) ∧ w.cell? ⟨g, off + 2, none⟩ = some (.int .i64 x.f) ∧ w.cell? ⟨g, off + 3, none⟩ = some (.int .i64 x.o) ∧ w.cell? ⟨g, off + 4, none⟩ = some (.bool x.sh) ∧
  w.cell? ⟨g, off + 5, none⟩ = some (.int .i64 x.pr) ∧ w.cell? ⟨g, off + 6, none⟩ = some (.int .i64 x.mx) ∧ w.cell? ⟨g, off + 7, none⟩ = some (.int .i64 x.inh) ∧ w.cell? ⟨g, off + 8, none⟩ = some (.int .i64 x.adv) ∧ w.cell? ⟨g, off + 9, none⟩ = some (.bool x.wi)
theorem at10_of {w : World} {g o : Nat} {x : Ent} (h : ∀ i u, (ent x)[i]? = some u → w.cell? ⟨g, o + i, none⟩ = some u) : At10 w g o x :=
  ⟨h 0 _ rfl, h 1 _ rfl, h 2 _ rfl, h 3 _ rfl, h 4 _ rfl, h 5 _ rfl, h 6 _ rfl, h 7 _ rfl, h 8 _ rfl, h 9 _ rfl⟩
/-- The cells of one entry of a row that came in. -/
theorem Rd.entry {w : World} {v : Value} {l : List Ent} (h : Rd w 10 v (l.flatMap ent)) {j : Nat} {x : Ent} (hx : l[j]? = some x) :
    ∃ g off n cap, v = .slice (some ⟨g, off, none⟩) n cap ∧ g < w.heap.size ∧ n = l.length ∧ At10 w g (off + j * 10) x := by
  have hg := fun i u hu => flat_ents l j x hx i u hu
  obtain ⟨g, off, n', cap', heq, hgl, hcs, hl⟩ := h.form (by intro e; have := hg 0 _ rfl; rw [e] at this; cases this)
  rw [len_ents] at hl
  exact ⟨g, off, n', cap', heq, hgl, by omega, at10_of fun i u hu => by rw [Nat.add_assoc]; exact hcs _ _ (hg i u hu)⟩
theorem Rd.elen {w : World} {v : Value} {l : List Ent} (h : Rd w 10 v (l.flatMap ent)) : sliceLen v = l.length := by
  have := h.len; rw [len_ents] at this; omega
theorem Rd.shape {w : World} {sz : Nat} {v : Value} {cs : List Value} (h : Rd w sz v cs) : ∃ A N C, v = .slice A N C := by
  rcases h with ⟨rfl, _⟩ | ⟨a, n, cap, rfl, _⟩ <;> exact ⟨_, _, _, rfl⟩
/-- A slice of entries of the program's own. -/
abbrev SE (w : World) (v : Value) (l : List Ent) : Prop := Sl w 28 10 v (l.flatMap ent)
theorem SE.elen {w : World} {v : Value} {l : List Ent} (h : SE w v l) : sliceLen v = l.length := by
  have := h.len; rw [len_ents] at this; omega
theorem SE.entry {w : World} {v : Value} {l : List Ent} (h : SE w v l) {j : Nat} {x : Ent} (hx : l[j]? = some x) :
    ∃ g off n cap, v = .slice (some ⟨g, off, none⟩) n cap ∧ g < w.heap.size ∧ (∀ i, w.frozen? ⟨g, i, none⟩ = false) ∧ n = l.length ∧ At10 w g (off + j * 10) x := by
  have hg := fun i u hu => flat_ents l j x hx i u hu
  obtain ⟨g, off, n', cap', heq, hgl, hcs, hfz, hl⟩ := h.form (by intro e; have := hg 0 _ rfl; rw [e] at this; cases this)
  rw [len_ents] at hl
  exact ⟨g, off, n', cap', heq, hgl, hfz, by omega, at10_of fun i u hu => by rw [Nat.add_assoc]; exact hcs _ _ (hg i u hu)⟩
def mk10 (s e f o : Int) (sh : Bool) (pr mx inh adv : Int) (wi : Bool) : Ent := ⟨s, e, f, o, sh, pr, mx, inh, adv, wi⟩
section
variable (a0 a1 a2 a3 : Int) (a4 : Bool) (a5 a6 a7 a8 : Int) (a9 : Bool) (b0 b1 b2 b3 : Int) (b4 : Bool) (b5 b6 b7 b8 : Int) (b9 : Bool)
abbrev v10 : Value := .agg #[.int .i64 a0, .int .i64 a1, .int .i64 a2, .int .i64 a3, .bool a4, .int .i64 a5, .int .i64 a6, .int .i64 a7, .int .i64 a8, .bool a9]
set_option maxRecDepth 100000 in
set_option maxHeartbeats 2000000 in
theorem eqin_ent (w : World) : (Op.equalIn 10000 28 (v10 a0 a1 a2 a3 a4 a5 a6 a7 a8 a9) (v10 b0 b1 b2 b3 b4 b5 b6 b7 b8 b9)).run Try.prog w = .ok ((Ent.mk a0 a1 a2 a3 a4 a5 a6 a7 a8 a9).eqb ⟨b0, b1, b2, b3, b4, b5, b6, b7, b8, b9⟩) w := by
  have u3 := Try.underlying3
  have a3' := Try.isAgg3
  have z3 := Try.sizeOf3
  have u4 := Try.underlying4
  have a4' := Try.isAgg4
  have z4 := Try.sizeOf4
  have hS : Try.prog.underlying 28 = some (.struct (Try.prog.fieldsOf 28)) := by kernel_rfl
  unfold Ent.eqb v10
  rw [show (10000 : Nat) = 9999 + 1 from rfl, run_equalIn_agg w 9999 28 _ _ hS (by kernel_rfl)]
  simp only [Program.fieldsOf, Try.underlying28]
  go_simp
  by_cases h0 : a0 = b0 <;> try (simp [h0]; done)
  by_cases h1 : a1 = b1 <;> try (simp [h0, h1]; done)
  by_cases h2 : a2 = b2 <;> try (simp [h0, h1, h2]; done)
  by_cases h3 : a3 = b3 <;> try (simp [h0, h1, h2, h3]; done)
  by_cases h4 : a4 = b4 <;> try (simp [h0, h1, h2, h3, h4]; done)
  by_cases h5 : a5 = b5 <;> try (simp [h0, h1, h2, h3, h4, h5]; done)
  by_cases h6 : a6 = b6 <;> try (simp [h0, h1, h2, h3, h4, h5, h6]; done)
  by_cases h7 : a7 = b7 <;> try (simp [h0, h1, h2, h3, h4, h5, h6, h7]; done)
  by_cases h8 : a8 = b8 <;> try (simp [h0, h1, h2, h3, h4, h5, h6, h7, h8]; done)
  by_cases h9 : a9 = b9 <;> simp [h0, h1, h2, h3, h4, h5, h6, h7, h8, h9]
def eqEnt : Sem Value := binOp .eql 28 (v10 a0 a1 a2 a3 a4 a5 a6 a7 a8 a9) (v10 b0 b1 b2 b3 b4 b5 b6 b7 b8 b9)
def neEnt : Sem Value := binOp .neq 28 (v10 a0 a1 a2 a3 a4 a5 a6 a7 a8 a9) (v10 b0 b1 b2 b3 b4 b5 b6 b7 b8 b9)
@[go_sem high] theorem to_eqEnt : binOp .eql 28 (.agg #[.int .i64 a0, .int .i64 a1, .int .i64 a2, .int .i64 a3, .bool a4, .int .i64 a5, .int .i64 a6, .int .i64 a7, .int .i64 a8, .bool a9]) (.agg #[.int .i64 b0, .int .i64 b1, .int .i64 b2, .int .i64 b3, .bool b4, .int .i64 b5, .int .i64 b6, .int .i64 b7, .int .i64 b8, .bool b9]) = eqEnt a0 a1 a2 a3 a4 a5 a6 a7 a8 a9 b0 b1 b2 b3 b4 b5 b6 b7 b8 b9 := rfl
@[go_sem high] theorem to_neEnt : binOp .neq 28 (.agg #[.int .i64 a0, .int .i64 a1, .int .i64 a2, .int .i64 a3, .bool a4, .int .i64 a5, .int .i64 a6, .int .i64 a7, .int .i64 a8, .bool a9]) (.agg #[.int .i64 b0, .int .i64 b1, .int .i64 b2, .int .i64 b3, .bool b4, .int .i64 b5, .int .i64 b6, .int .i64 b7, .int .i64 b8, .bool b9]) = neEnt a0 a1 a2 a3 a4 a5 a6 a7 a8 a9 b0 b1 b2 b3 b4 b5 b6 b7 b8 b9 := rfl
@[go_sem] theorem run_eqEnt (w : World) : (eqEnt a0 a1 a2 a3 a4 a5 a6 a7 a8 a9 b0 b1 b2 b3 b4 b5 b6 b7 b8 b9).run Try.prog w = .ok (.bool ((Ent.mk a0 a1 a2 a3 a4 a5 a6 a7 a8 a9).eqb ⟨b0, b1, b2, b3, b4, b5, b6, b7, b8, b9⟩)) w := by
  change Sem.run Try.prog (Op.equalIn 10000 28 _ _ >>= _) w = _
  rw [Sem.run_bind, eqin_ent]
  rfl
@[go_sem] theorem run_neEnt (w : World) : (neEnt a0 a1 a2 a3 a4 a5 a6 a7 a8 a9 b0 b1 b2 b3 b4 b5 b6 b7 b8 b9).run Try.prog w = .ok (.bool (!(Ent.mk a0 a1 a2 a3 a4 a5 a6 a7 a8 a9).eqb ⟨b0, b1, b2, b3, b4, b5, b6, b7, b8, b9⟩)) w := by
  change Sem.run Try.prog (Op.equalIn 10000 28 _ _ >>= _) w = _
  rw [Sem.run_bind, eqin_ent]
  rfl
end
/-- May an entry be, and a list? -/
def permB (pr mx : Int) : Bool := decide (bits .and .i64 pr mx = pr)
def goodB (x : Ent) : Bool :=
  decide (0 ≤ x.s) && decide (x.s < x.e) && decide (x.e ≤ 67108864) && decide (0 ≤ x.f) && decide (0 ≤ x.o) && decide (0 ≤ x.pr) && decide (x.pr ≤ 7) && decide (0 ≤ x.mx) && decide (x.mx ≤ 7) && permB x.pr x.mx &&
  (decide (0 ≤ x.inh) && decide (x.inh ≤ 2) && decide (0 ≤ x.adv) && decide (x.adv ≤ 4)) && (if x.f = 0 then decide (x.o = 0) else decide (x.o ≤ 4096 - (x.e - x.s)))
def rightB : Int → List Ent → Bool
  | _, [] => true
  | last, x :: l => goodB x && decide (last ≤ x.s) && rightB x.e l
end Go.Proofs.Ytopglbkcciigbaa
