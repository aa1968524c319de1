/- pantryref05.Table in memory: New, Find, drop and the flushes. No conditions. -/
import Derived.Test.YtehgfhcpjeepkaaTabF
import Derived.Test.YtehgfhcpjeepkaaSlB
import Derived.Test.YtehgfhcpjeepkaaLastW
import Derived.Deep.DeepCutAuto
import Derived.Deep.CutBlock
namespace Go.Proofs.Ytehgfhcpjeepkaa
open Go.RowKit
set_option linter.unusedSimpArgs false
set_option linter.unusedVariables false
def ents (x : K2 × K2) : List Value := [.int .i64 x.1.1, .int .i64 x.1.2, .int .i64 x.2.1, .int .i64 x.2.2]
theorem len_ents : ∀ (l : List (K2 × K2)), (l.flatMap ents).length = l.length * 4
  | [] => rfl
  | x :: l => by simp only [List.flatMap_cons, List.length_append, len_ents l, List.length_cons]; simp [ents]; omega
theorem flat_ents : ∀ (l : List (K2 × K2)) (j : Nat) (a : K2 × K2), l[j]? = some a → ∀ i u, (ents a)[i]? = some u → (l.flatMap ents)[j * 4 + i]? = some u
  | [], j, a, h, _, _, _ => by simp at h
  | x :: l, 0, a, h, i, u, hu => by
    simp at h; subst h
    have hi : i < (ents x).length := (List.getElem?_eq_some_iff.1 hu).1
    simp only [List.flatMap_cons, Nat.zero_mul, Nat.zero_add]
    rw [List.getElem?_append_left hi]; exact hu
  | x :: l, j + 1, a, h, i, u, hu => by
    simp at h
    have ih := flat_ents l j a h i u hu
    simp only [List.flatMap_cons]
    rw [List.getElem?_append_right (by simp [ents]; omega)]
    rw [show (j + 1) * 4 + i - (ents x).length = j * 4 + i by simp [ents]; omega]
    exact ih
theorem one_ents (l : List (K2 × K2)) : ∀ u ∈ l.flatMap ents, u.oneCell' = true := by
  intro u hu
  obtain ⟨x, _, hx⟩ := List.mem_flatMap.1 hu
  simp [ents] at hx
  rcases hx with rfl | rfl | rfl | rfl <;> rfl
theorem zeroKept : (Try.prog.info? 53).map (fun i => (i.zero, i.size, i.bytes)) = some (some (.agg #[.int .i64 0, .int .i64 0, .int .i64 0, .int .i64 0]), 4, 32) := by kernel_rfl
/-- The cells of one entry of a row. -/
theorem Sl.ent {w : World} {v : Value} {l : List (K2 × K2)} (h : Sl w 53 4 v (l.flatMap ents)) {j : Nat} {x : K2 × K2} (hx : l[j]? = some x) :
    ∃ g off n cap, v = .slice (some ⟨g, off, none⟩) n cap ∧ g < w.heap.size ∧ (∀ i, w.frozen? ⟨g, i, none⟩ = false) ∧ w.cell? ⟨g, off + j * 4, none⟩ = some (.int .i64 x.1.1) ∧ w.cell? ⟨g, off + j * 4 + 1, none⟩ = some (.int .i64 x.1.2) ∧ w.cell? ⟨g, off + j * 4 + 2, none⟩ = some (.int .i64 x.2.1) ∧
      w.cell? ⟨g, off + j * 4 + 3, none⟩ = some (.int .i64 x.2.2) := by
  have hg := fun i u hu => flat_ents l j x hx i u hu
  obtain ⟨g, off, n', cap', heq, hgl, hcs, hfz, _⟩ := h.form (by intro e; have := hg 0 _ rfl; rw [e] at this; cases this)
  exact ⟨g, off, n', cap', heq, hgl, hfz, hcs _ _ (hg 0 _ rfl), by rw [Nat.add_assoc]; exact hcs _ _ (hg 1 _ rfl), by rw [Nat.add_assoc]; exact hcs _ _ (hg 2 _ rfl), by rw [Nat.add_assoc]; exact hcs _ _ (hg 3 _ rfl)⟩
/-- A table of the document's: its block, its row. -/
structure RTab (w : World) (b : Nat) (n : Int) (lv : Value) (l : List (K2 × K2)) : Prop where
  blk : ob w b = some (.cells #[.int .i64 n, lv] 51 (0, 0))
  row : Sl w 53 4 lv (l.flatMap ents)
def rtS (b : Nat) (lv : Value) (k : Nat) : Prop := k = b ∨ lv.ownBlock = some k
section
variable {w w1 : World} {b : Nat} {n : Int} {lv : Value} {l : List (K2 × K2)}
theorem RTab.fr {S : Nat → Prop} (h : RTab w b n lv l) (hf : Fr S w w1) (hn : ∀ k, rtS b lv k → ¬ S k) : RTab w1 b n lv l :=
  ⟨hf.keep (hn b (.inl rfl)) h.blk, h.row.fr hf (fun k hk => hn k (.inr hk))⟩
theorem RTab.lt (h : RTab w b n lv l) : b < w.heap.size := ob_lt h.blk
theorem RTab.slt (h : RTab w b n lv l) {k : Nat} (hk : rtS b lv k) : k < w.heap.size := by
  rcases hk with rfl | hk
  · exact h.lt
  · exact h.row.lt hk
theorem RTab.form (h : RTab w b n lv l) : ∃ A N C, lv = .slice A N C ∧ N = l.length := by
  have := h.row.len
  rw [len_ents] at this
  rcases h.row with ⟨rfl, _⟩ | ⟨g, off, n, cap, row, rfl, _⟩
  · exact ⟨_, _, _, rfl, by simp only [sliceLen] at this; omega⟩
  · exact ⟨_, _, _, rfl, by simp only [sliceLen] at this; omega⟩
theorem RTab.bk (h : RTab w b n lv l) : lv.ownBlock ≠ some b := fun e => by
  rcases h.row with ⟨rfl, _⟩ | ⟨g, off, n, cap, row, rfl, ho, _⟩
  · cases e
  · cases e
    have := ho.symm.trans h.blk
    simp at this
theorem rnew_any (n : Int) (h0 : 0 ≤ n) (h1 : n ≤ 1024) (w : World) :
    Calls Try.prog 15 #[.int .i64 n] w fun e w' => ∃ b, e = .returned (.pointer (some ⟨b, 0, none⟩)) ∧ RTab w' b n (.slice none 0 0) [] ∧ Fr (fun _ => False) w w' ∧ w.heap.size ≤ b := by
  go_enter Try.func15, Try.ntmps15
  go_wp2
  go_ret
  exact ⟨_, rfl, ⟨ob_new _ _, Sl.nil _ _ _⟩, (Fr.refl _ w).alloc _, Nat.le_refl _⟩
theorem rnew_nil (n : Int) (h : n < 0 ∨ 1024 < n) (w : World) : Calls Try.prog 15 #[.int .i64 n] w fun e w' => e = .returned (.pointer none) ∧ w = w' := by
  go_enter Try.func15, Try.ntmps15
  by_cases h1 : n < 0
  · go_wp2
    go_ret
    exact ⟨rfl, rfl⟩
  · have h2 : 1024 < n := by omega
    go_wp2
    go_ret
    exact ⟨rfl, rfl⟩
theorem new_nil (n : Int) (h : n < 0 ∨ 1024 < n) (w : World) : Calls Try.prog 8 #[.int .i64 n] w fun e w' => e = .returned (.pointer none) ∧ w = w' := by
  go_enter Try.func8, Try.ntmps8
  by_cases h1 : n < 0
  · go_wp2
    go_ret
    exact ⟨rfl, rfl⟩
  · have h2 : 1024 < n := by omega
    go_wp2
    go_ret
    exact ⟨rfl, rfl⟩
end
theorem eqin_rkey (a b c d : Int) (w : World) : (Op.equalIn 10000 42 (.agg #[.int .i64 a, .int .i64 b]) (.agg #[.int .i64 c, .int .i64 d])).run Try.prog w = .ok (k2eq a b c d) w := by
  unfold k2eq
  have u3 := Try.underlying3
  have a3 := Try.isAgg3
  have z3 := Try.sizeOf3
  have hS : Try.prog.underlying 42 = some (.struct (Try.prog.fieldsOf 42)) := by kernel_rfl
  rw [show (10000 : Nat) = 9999 + 1 from rfl, run_equalIn_agg w 9999 42 _ _ hS (by kernel_rfl)]
  simp only [Program.fieldsOf, Try.underlying42]
  go_simp
  by_cases h1 : a = c <;> by_cases h2 : b = d <;> simp [h1, h2]
def eqRKey (a b c d : Int) : Sem Value := binOp .eql 42 (.agg #[.int .i64 a, .int .i64 b]) (.agg #[.int .i64 c, .int .i64 d])
@[go_sem high] theorem to_eqRKey (a b c d : Int) : binOp .eql 42 (.agg #[.int .i64 a, .int .i64 b]) (.agg #[.int .i64 c, .int .i64 d]) = eqRKey a b c d := rfl
@[go_sem] theorem run_eqRKey (a b c d : Int) (w : World) : (eqRKey a b c d).run Try.prog w = .ok (.bool (k2eq a b c d)) w := by
  change Sem.run Try.prog (Op.equalIn 10000 42 _ _ >>= _) w = _
  rw [Sem.run_bind, eqin_rkey]
  rfl
def neRKey (a b c d : Int) : Sem Value := binOp .neq 42 (.agg #[.int .i64 a, .int .i64 b]) (.agg #[.int .i64 c, .int .i64 d])
@[go_sem high] theorem to_neRKey (a b c d : Int) : binOp .neq 42 (.agg #[.int .i64 a, .int .i64 b]) (.agg #[.int .i64 c, .int .i64 d]) = neRKey a b c d := rfl
@[go_sem] theorem run_neRKey (a b c d : Int) (w : World) : (neRKey a b c d).run Try.prog w = .ok (.bool (!k2eq a b c d)) w := by
  change Sem.run Try.prog (Op.equalIn 10000 42 _ _ >>= _) w = _
  rw [Sem.run_bind, eqin_rkey]
  rfl
end Go.Proofs.Ytehgfhcpjeepkaa
