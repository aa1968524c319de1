/- AnonNone returns true: the walk. No conditions. -/
import Derived.Test.YtalinhpdibdlkaaAnG
import Derived.Test.YtalinhpdibdlkaaFlat
namespace Go.Proofs.Ytalinhpdibdlkaa
open Go.RowKit
set_option linter.unusedSimpArgs false
set_option linter.unusedVariables false
/-- The nil pool, or a zero one. -/
def EmpP (w : World) (v : Value) : Prop :=
  v = .pointer none ∨ ∃ b, v = .pointer (some ⟨b, 0, none⟩) ∧ ob w b = some (.cells #[.int .i64 0, .bool false, .map none, .slice none 0 0, .int .i64 0] 63 (0, 0))
theorem EmpP.fr {w w1 : World} {v : Value} (h : EmpP w v) (hf : Fr (fun _ => False) w w1) : EmpP w1 v := by
  rcases h with rfl | ⟨b, rfl, ho⟩
  · exact .inl rfl
  · exact .inr ⟨b, rfl, hf.keep (fun h => h) ho⟩
section
variable {w : World} {v : Value}
theorem madeE (h : EmpP w v) : Calls Try.prog 26 #[v] w fun e w' => e = .returned (.bool false) ∧ w = w' := by
  rcases h with rfl | ⟨b, rfl, ho⟩
  · go_enter Try.func26, Try.ntmps26
    go_wp2
    go_ret
    exact ⟨rfl, rfl⟩
  · have hb := ob_lt ho
    have c1 : w.cell? ⟨b, 1, none⟩ = some (.bool false) := cell_of_ob ho 1
    go_enter Try.func26, Try.ntmps26
    go_wp2
    go_ret
    exact ⟨rfl, rfl⟩
theorem lenE (h : EmpP w v) : Calls Try.prog 15 #[v] w fun e w' => e = .returned (.int .i64 0) ∧ w = w' := by
  go_enter Try.func15, Try.ntmps15
  go_wp2_with fail
  refine (madeE h).mono ?_
  rintro e w1 ⟨rfl, rfl⟩
  go_wp2
  go_ret
  exact ⟨rfl, rfl⟩
theorem idsE (h : EmpP w v) : Calls Try.prog 23 #[v] w fun e w' => e = .returned (.slice none 0 0) ∧ w = w' := by
  go_enter Try.func23, Try.ntmps23
  go_wp2_with fail
  refine (madeE h).mono ?_
  rintro e w1 ⟨rfl, rfl⟩
  go_wp2
  go_ret
  exact ⟨rfl, rfl⟩
theorem sumE (h : EmpP w v) : Calls Try.prog 14 #[v] w fun e w' => e = .returned (.int .i64 0) ∧ w = w' := by
  go_enter Try.func14, Try.ntmps14
  go_wp2_with fail
  refine (idsE h).mono ?_
  rintro e w1 ⟨rfl, rfl⟩
  go_wp2_with fail
  go_loop [3, 9] (fun sn si => sn = .int .i64 0 ∧ si = .int .i64 0) (fun _ _ => 0)
  case atStart => exact ⟨rfl, rfl⟩
  case round =>
    obtain ⟨rfl, rfl⟩ := hrel
    go_wp2
    go_ret
    exact ⟨rfl, rfl⟩
theorem makeE (h : EmpP w v) (x : Int) : Calls Try.prog 11 #[v, .int .i64 x] w fun e w' => e = .returned (.tuple #[.int .i64 0, .int .i64 1]) ∧ w = w' := by
  go_enter Try.func11, Try.ntmps11
  go_wp2_with fail
  refine (madeE h).mono ?_
  rintro e w1 ⟨rfl, rfl⟩
  go_wp2
  exact bodyPost_ret (v := .tuple #[.int .i64 0, .int .i64 1]) (by simp [results, Try.results11, go_sem]) rfl ⟨rfl, rfl⟩
theorem changeE (h : EmpP w v) (x : Int) (f : Value) : Calls Try.prog 28 #[v, .int .i64 x, f] w fun e w' => e = .returned (.tuple #[.agg #[.int .i64 0, .int .i64 0, .int .i64 0], .int .i64 1]) ∧ Fr (fun _ => False) w w' := by
  have hf : Fr (fun _ => False) w (w.alloc (.cells #[.int .i64 0, .int .i64 0, .int .i64 0] 32)) := (Fr.refl _ w).alloc _
  go_enter Try.func28, Try.ntmps28
  go_wp2_with fail
  refine (madeE (h.fr hf)).mono ?_
  rintro e w1 ⟨rfl, rfl⟩
  go_wp2
  refine bodyPost_ret (v := .tuple #[.agg #[.int .i64 0, .int .i64 0, .int .i64 0], .int .i64 1]) (by simp [results, Try.results28, go_sem]) rfl ⟨rfl, ?_⟩
  exact hf
theorem refE (h : EmpP w v) (x y : Int) : Calls Try.prog 12 #[v, .int .i64 x, .int .i64 y] w fun e w' => e = .returned (.tuple #[.agg #[.int .i64 0, .int .i64 0, .int .i64 0], .int .i64 1]) ∧ Fr (fun _ => False) w w' := by
  have hf : Fr (fun _ => False) w ((w.alloc (.cells #[.int .i64 y] 3)).alloc (.cells #[.int .i64 0, .int .i64 0, .int .i64 0] 32)) := ((Fr.refl _ w).alloc _).alloc _
  have oz : ob ((w.alloc (.cells #[.int .i64 y] 3)).alloc (.cells #[.int .i64 0, .int .i64 0, .int .i64 0] 32)) (w.heap.size + 1) = some (.cells #[.int .i64 0, .int .i64 0, .int .i64 0] 32 (0, 0)) := ob_newAt _ _ _ (by simp)
  go_enter Try.func12, Try.ntmps12
  go_wp2_with fail
  refine (changeE (h.fr hf) _ _).mono ?_
  rintro e w2 ⟨rfl, hf2⟩
  have oz2 := hf2.keep (fun h => h) oz
  have g0 : w2.cell? ⟨w.heap.size + 1, 0, none⟩ = some (.int .i64 0) := cell_of_ob oz2 0
  have g1 : w2.cell? ⟨w.heap.size + 1, 1, none⟩ = some (.int .i64 0) := cell_of_ob oz2 1
  have g2 : w2.cell? ⟨w.heap.size + 1, 2, none⟩ = some (.int .i64 0) := cell_of_ob oz2 2
  have gf0 := frozen_of_ob oz2 0
  have gf1 := frozen_of_ob oz2 1
  have gf2 := frozen_of_ob oz2 2
  have so := ob_lt oz2
  have hsz := hf.size
  go_wp2_with fail
  refine bodyPost_ret (v := .tuple #[.agg #[.int .i64 0, .int .i64 0, .int .i64 0], .int .i64 1]) (by simp [results, Try.results12, go_sem, *]) rfl ⟨rfl, ?_⟩
  exact ((((hf.step hf2 (fun _ h => h.elim)).setCell ⟨w.heap.size + 1, 0, none⟩ _ (.inr (by simp))).setCell ⟨w.heap.size + 1, 1, none⟩ _ (.inr (by simp))).setCell ⟨w.heap.size + 1, 2, none⟩ _ (.inr (by simp)))
theorem putE (h : EmpP w v) (x y z : Int) : Calls Try.prog 16 #[v, .int .i64 x, .int .i64 y, .int .i64 z] w fun e w' => e = .returned (.int .i64 1) ∧ Fr (fun _ => False) w w' := by
  have hf : Fr (fun _ => False) w ((w.alloc (.cells #[.int .i64 y] 3)).alloc (.cells #[.int .i64 z] 3)) := ((Fr.refl _ w).alloc _).alloc _
  go_enter Try.func16, Try.ntmps16
  go_wp2_with fail
  refine (changeE (h.fr hf) _ _).mono ?_
  rintro e w2 ⟨rfl, hf2⟩
  go_wp2
  go_ret
  exact ⟨rfl, (hf.step hf2 (fun _ h => h.elim)).alloc _⟩
theorem getE (h : EmpP w v) (x : Int) : Calls Try.prog 13 #[v, .int .i64 x] w fun e w' => e = .returned (.tuple #[.agg #[.int .i64 0, .int .i64 0, .int .i64 0], .bool false]) ∧ Fr (fun _ => False) w w' := by
  have hf : Fr (fun _ => False) w (w.alloc (.cells #[.int .i64 0, .int .i64 0, .int .i64 0] 32)) := (Fr.refl _ w).alloc _
  go_enter Try.func13, Try.ntmps13
  go_wp2_with fail
  refine (madeE (h.fr hf)).mono ?_
  rintro e w1 ⟨rfl, rfl⟩
  go_wp2
  refine bodyPost_ret (v := .tuple #[.agg #[.int .i64 0, .int .i64 0, .int .i64 0], .bool false]) (by simp [results, Try.results13, go_sem]) rfl ⟨rfl, ?_⟩
  exact hf
end
@[go_sem] theorem index0 (a b : Option Addr) (w : World) : (Instr.index 64 (.agg #[.pointer a, .pointer b]) (.int .i64 0)).run Try.prog w = .ok (.pointer a) w := by kernel_rfl
@[go_sem] theorem index1 (a b : Option Addr) (w : World) : (Instr.index 64 (.agg #[.pointer a, .pointer b]) (.int .i64 1)).run Try.prog w = .ok (.pointer b) w := by kernel_rfl
set_option maxRecDepth 100000 in
set_option maxHeartbeats 4000000 in
theorem none_walk (w : World) (x : I4) :
    Calls Try.prog 8 #[.agg (i4 x).toArray] w fun e w' => e = .returned (.bool true) ∧ Fr (fun _ => False) w w' := by
  obtain ⟨kd, id, va, vb⟩ := x
  show Calls Try.prog _ #[.agg #[.int .i64 kd, .int .i64 id, .int .i64 va, .int .i64 vb]] w _
  go_enter Try.func8, Try.ntmps8
  go_wp2_with fail
  obtain ⟨W, hW⟩ : ∃ W, W = (w.alloc (.cells #[.int .i64 kd, .int .i64 id, .int .i64 va, .int .i64 vb] 38)).alloc (.cells #[.int .i64 0, .bool false, .map none, .slice none 0 0, .int .i64 0] 63) := ⟨_, rfl⟩
  rw [← hW]
  have hsz : W.heap.size = w.heap.size + 1 + 1 := by rw [hW]; simp
  have hfr : Fr (fun _ => False) w W := by rw [hW]; exact ((Fr.refl _ _).alloc _).alloc _
  have oa : ob W w.heap.size = some (.cells #[.int .i64 kd, .int .i64 id, .int .i64 va, .int .i64 vb] 38 (0, 0)) := by
    rw [hW, ob_alloc _ _ _ (by simp only [World.size_alloc]; omega), ob_new]
  have oz : ob W (w.heap.size + 1) = some (.cells #[.int .i64 0, .bool false, .map none, .slice none 0 0, .int .i64 0] 63 (0, 0)) := by
    rw [hW, ob_newAt _ _ _ (by simp)]
  obtain ⟨ba, hba⟩ : ∃ k, w.heap.size = k := ⟨_, rfl⟩
  rw [hba] at oa oz ⊢
  clear hW hsz hba
  go_loopw [13] (fun i wr => ∃ j : Nat, j ≤ 2 ∧ i = .int .i64 j ∧ Fr (fun _ => False) W wr) (fun i _ => 2 - (intOf i).toNat)
  case atStart => exact ⟨0, by omega, rfl, Fr.refl _ _⟩
  case round =>
    obtain ⟨j, hj, rfl, hf⟩ := hrel
    have o0 := hf.keep (fun h => h) oa
    have oz0 := hf.keep (fun h => h) oz
    have hfw : Fr (fun _ => False) w wr := hfr.step hf (fun _ h => h.elim)
    have HFW := Lib.hid hfw
    have HF := Lib.hid hf
    clear oa oz hfr hf hfw
    have p1 := cell_of_ob o0 1
    have p2 := cell_of_ob o0 2
    have p3 := cell_of_ob o0 3
    have s0 := ob_lt o0
    by_cases hj2 : j < 2
    · have hE : ∃ a : Option Addr, (j = 0 ∧ a = none ∨ j = 1 ∧ a = some ⟨ba + 1, 0, none⟩) ∧ EmpP wr (.pointer a) := by
        rcases (by omega : j = 0 ∨ j = 1) with h | h
        · exact ⟨none, .inl ⟨h, rfl⟩, .inl rfl⟩
        · exact ⟨_, .inr ⟨h, rfl⟩, .inr ⟨_, rfl, oz0⟩⟩
      obtain ⟨pa, hpa, hE⟩ := hE
      have hidx : (Instr.index 64 (.agg #[.pointer none, .pointer (some ⟨ba + 1, 0, none⟩)]) (.int .i64 j)).run Try.prog wr = .ok (.pointer pa) wr := by
        rcases hpa with ⟨rfl, rfl⟩ | ⟨rfl, rfl⟩
        · exact index0 _ _ _
        · exact index1 _ _ _
      clear oz0 hpa
      go_wp2_with fail
      refine (makeE hE va).mono ?_
      rintro e w2 ⟨rfl, rfl⟩
      go_wp2_with fail
      refine (refE hE id va).mono ?_
      rintro e w3 ⟨rfl, hf3⟩
      clear p1 p2 p3 hidx s0
      have o3 := hf3.keep (fun h => h) o0
      have hE3 := hE.fr hf3
      have s3 := ob_lt o3
      have p1 := cell_of_ob o3 1
      have hfA := hf3.alloc (.cells #[.int .i64 0, .int .i64 0, .int .i64 0] 32)
      go_wp2_with fail
      refine (getE (hE.fr hfA) id).mono ?_
      rintro e w4 ⟨rfl, hf4⟩
      clear p1 s3 o3
      have hf4' := hfA.step hf4 (fun _ h => h.elim)
      have o4 := hf4'.keep (fun h => h) o0
      have s4 := ob_lt o4
      have p1 := cell_of_ob o4 1
      have p2 := cell_of_ob o4 2
      have p3 := cell_of_ob o4 3
      have hfB := hf4'.alloc (.cells #[.int .i64 0, .int .i64 0, .int .i64 0] 32)
      go_wp2_with fail
      refine (putE (hE.fr hfB) id va vb).mono ?_
      rintro e w5 ⟨rfl, hf5⟩
      have hf5' := hfB.step hf5 (fun _ h => h.elim)
      have hE5 := hE.fr hf5'
      clear p1 p2 p3 s4 o4
      go_wp2_with fail
      refine (lenE hE5).mono ?_
      rintro e w6 ⟨rfl, rfl⟩
      go_wp2_with fail
      refine (sumE hE5).mono ?_
      rintro e w6 ⟨rfl, rfl⟩
      go_wp2_with fail
      refine (idsE hE5).mono ?_
      rintro e w6 ⟨rfl, rfl⟩
      go_wp2
      go_roundw
      case rel => exact ⟨j + 1, by omega, by go_num, HF.out.step hf5' (fun _ h => h.elim)⟩
      case measure => simp [intOf]; omega
    · obtain rfl : j = 2 := by omega
      clear p1 p2 p3 oz0
      go_wp2_with fail
      refine (lives_any _).mono ?_
      rintro e w9 ⟨rfl, hf9⟩
      go_wp2
      go_ret
      exact ⟨rfl, HFW.out.step hf9 (fun _ h => h.elim)⟩
end Go.Proofs.Ytalinhpdibdlkaa
