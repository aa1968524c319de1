/- object.Pool: a pool that no call made, walked. No conditions. -/
import Derived.Test.YtopfknikmhkaeaaObLives
import Derived.Shelf.Abstract
namespace Go.Proofs.Ytopfknikmhkaeaa
open Go.RowKit
set_option linter.unusedSimpArgs false
set_option linter.unusedVariables false
attribute [local go_sem] Oper.semAt_some
/-- The nil pool, or a zero one. -/
def EmpO (w : World) (pa : Option Addr) : Prop := pa = none ∨ ∃ z, pa = some ⟨z, 0, none⟩ ∧ ob w z = some (.cells #[.int .i64 0, .bool false, .map none] 68 (0, 0))
theorem EmpO.fr {w w1 : World} {pa : Option Addr} (h : EmpO w pa) (hf : Fr (fun _ => False) w w1) : EmpO w1 pa := by
  rcases h with rfl | ⟨z, rfl, ho⟩
  · exact .inl rfl
  · exact .inr ⟨z, rfl, hf.keep (fun h => h) ho⟩
section
variable {w : World} {pa : Option Addr}
theorem madeE (h : EmpO w pa) : Calls Try.prog 31 #[.pointer pa] w fun e w' => e = .returned (.bool false) ∧ w' = w := by
  rcases h with rfl | ⟨z, rfl, ho⟩
  · go_enter Try.func31, Try.ntmps31
    go_wp2
    go_ret
    exact ⟨rfl, rfl⟩
  · have c1 := cell_of_ob ho 1
    have hl := ob_lt ho
    go_enter Try.func31, Try.ntmps31
    go_wp2
    go_ret
    exact ⟨rfl, rfl⟩
theorem ofE (h : EmpO w pa) (id : Int) : Calls Try.prog 32 #[.pointer pa, .int .i64 id] w fun e w' => e = .returned (.pointer none) ∧ w' = w := by
  go_enter Try.func32, Try.ntmps32
  go_wp2_with fail
  refine (madeE h).mono ?_
  rintro e w1 ⟨rfl, rfl⟩
  go_wp2
  go_ret
  exact ⟨rfl, rfl⟩
theorem idsE (h : EmpO w pa) : Calls Try.prog 18 #[.pointer pa] w fun e w' => e = .returned (.slice none 0 0) ∧ w' = w := by
  go_enter Try.func18, Try.ntmps18
  go_wp2_with fail
  refine (madeE h).mono ?_
  rintro e w1 ⟨rfl, rfl⟩
  go_wp2
  go_ret
  exact ⟨rfl, rfl⟩
theorem fileE (h : EmpO w pa) (id : Int) : Calls Try.prog 15 #[.pointer pa, .int .i64 id] w fun e w' => e = .returned (.int .i64 0) ∧ w' = w := by
  go_enter Try.func15, Try.ntmps15
  go_wp2_with fail
  refine (ofE h id).mono ?_
  rintro e w1 ⟨rfl, rfl⟩
  go_wp2
  go_ret
  exact ⟨rfl, rfl⟩
theorem of2E (h : EmpO w pa) (f : Int) : Calls Try.prog 14 #[.pointer pa, .int .i64 f] w fun e w' => e = .returned (.int .i64 0) ∧ w' = w := by
  go_enter Try.func14, Try.ntmps14
  go_wp2_with fail
  refine (idsE h).mono ?_
  rintro e w1 ⟨rfl, rfl⟩
  go_wp2_with fail
  refine wp_loop_once ?_
  go_wp2
  go_ret
  exact ⟨rfl, rfl⟩
theorem makeE (h : EmpO w pa) (f : Int) : Calls Try.prog 10 #[.pointer pa, .int .i64 f] w fun e w' => e = .returned (.tuple #[.int .i64 0, .int .i64 1]) ∧ w' = w := by
  go_enter Try.func10, Try.ntmps10
  go_wp2_with fail
  refine (madeE h).mono ?_
  rintro e w1 ⟨rfl, rfl⟩
  go_wp2
  refine bodyPost_ret (v := .tuple #[.int .i64 0, .int .i64 1]) (by simp [results, Try.results10, go_sem]) rfl ⟨rfl, rfl⟩
theorem refE (h : EmpO w pa) (id x : Int) : Calls Try.prog 11 #[.pointer pa, .int .i64 id, .int .i64 x] w fun e w' => e = .returned (.tuple #[.int .i64 0, .int .i64 1]) ∧ w' = w := by
  go_enter Try.func11, Try.ntmps11
  go_wp2_with fail
  refine (madeE h).mono ?_
  rintro e w1 ⟨rfl, rfl⟩
  go_wp2
  refine bodyPost_ret (v := .tuple #[.int .i64 0, .int .i64 1]) (by simp [results, Try.results11, go_sem]) rfl ⟨rfl, rfl⟩
theorem getE (h : EmpO w pa) (id ix : Int) : Calls Try.prog 17 #[.pointer pa, .int .i64 id, .int .i64 ix] w fun e w' => e = .returned (.tuple #[.agg #[.int .i64 0, .int .i64 0, .bool false], .bool false]) ∧ Fr (fun _ => False) w w' := by
  have hfr0 : Fr (fun _ => False) w (w.alloc (.cells #[.int .i64 0, .int .i64 0, .bool false] 34)) := (Fr.refl _ _).alloc _
  have h0 := h.fr hfr0
  go_enter Try.func17, Try.ntmps17
  go_wp2_with fail
  refine (ofE h0 id).mono ?_
  rintro e w1 ⟨rfl, rfl⟩
  go_wp2_with fail
  exact bodyPost_ret (v := .tuple #[.agg #[.int .i64 0, .int .i64 0, .bool false], .bool false]) (by simp [results, Try.results17, go_sem]) rfl ⟨rfl, hfr0⟩
theorem putE (h : EmpO w pa) (id ix x1 x2 : Int) (x3 : Bool) : Calls Try.prog 12 #[.pointer pa, .int .i64 id, .int .i64 ix, .agg #[.int .i64 x1, .int .i64 x2, .bool x3]] w fun e w' => e = .returned (.int .i64 1) ∧ Fr (fun _ => False) w w' := by
  have hfr0 : Fr (fun _ => False) w (w.alloc (.cells #[.int .i64 x1, .int .i64 x2, .bool x3] 34)) := (Fr.refl _ _).alloc _
  have h0 := h.fr hfr0
  go_enter Try.func12, Try.ntmps12
  go_wp2_with fail
  refine (madeE h0).mono ?_
  rintro e w1 ⟨rfl, rfl⟩
  go_wp2
  go_ret
  exact ⟨rfl, hfr0⟩
theorem dropE (h : EmpO w pa) (id ix : Int) : Calls Try.prog 16 #[.pointer pa, .int .i64 id, .int .i64 ix] w fun e w' => e = .returned (.bool false) ∧ Fr (fun _ => False) w w' := by
  go_enter Try.func16, Try.ntmps16
  go_wp2_with fail
  refine (getE h id ix).mono ?_
  rintro e w1 ⟨rfl, hf1⟩
  go_wp2
  go_ret
  exact ⟨rfl, hf1.alloc _⟩
/-- Pages: a closure over what it is given. -/
theorem pages_any (pa : Option Addr) (id lo hi : Int) (w : World) : Calls Try.prog 19 #[.pointer pa, .int .i64 id, .int .i64 lo, .int .i64 hi] w fun e w' =>
    e = .returned (.func (.func 36) #[] #[.pointer (some ⟨w.heap.size, 0, none⟩), .pointer (some ⟨w.heap.size + 1, 0, none⟩), .pointer (some ⟨w.heap.size + 2, 0, none⟩), .pointer (some ⟨w.heap.size + 3, 0, none⟩)]) ∧
    w' = (((w.alloc (.cells #[.pointer pa] 24)).alloc (.cells #[.int .i64 id] 3)).alloc (.cells #[.int .i64 lo] 3)).alloc (.cells #[.int .i64 hi] 3) := by
  go_enter Try.func19, Try.ntmps19
  go_wp2
  go_ret
  exact ⟨rfl, rfl⟩
end
end Go.Proofs.Ytopfknikmhkaeaa
