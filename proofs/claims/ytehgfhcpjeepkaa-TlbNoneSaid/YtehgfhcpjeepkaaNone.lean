/- TlbNone: a table that no call made keeps nothing. No conditions. -/
import Derived.Test.YtehgfhcpjeepkaaTabF
import Derived.Test.YtehgfhcpjeepkaaOpen
import Derived.Test.YtehgfhcpjeepkaaMapsC
namespace Go.Proofs.Ytehgfhcpjeepkaa
open Go.RowKit
set_option linter.unusedSimpArgs false
set_option linter.unusedVariables false
/-- The nil table, or a zero one. -/
def EmpAt (w : World) (v : Value) : Prop :=
  v = .pointer none ∨ ∃ b, v = .pointer (some ⟨b, 0, none⟩) ∧ ob w b = some (.cells #[.int .i64 0, .slice none 0 0, .map none] 58 (0, 0))
def empS (v : Value) (k : Nat) : Prop := v = .pointer (some ⟨k, 0, none⟩)
theorem EmpAt.fr {w w1 : World} {v : Value} {S : Nat → Prop} (h : EmpAt w v) (hf : Fr S w w1) (hn : ∀ k, empS v k → ¬ S k) : EmpAt w1 v := by
  rcases h with rfl | ⟨b, rfl, ho⟩
  · exact .inl rfl
  · exact .inr ⟨b, rfl, hf.keep (hn b rfl) ho⟩
section
variable {w : World} {v : Value}
theorem lenE (h : EmpAt w v) : Calls Try.prog 12 #[v] w fun e w' => e = .returned (.int .i64 0) ∧ w = w' := by
  rcases h with rfl | ⟨b, rfl, ho⟩
  · go_enter Try.func12, Try.ntmps12
    go_wp2
    go_ret
    exact ⟨rfl, rfl⟩
  · have hb := ob_lt ho
    have c1 : w.cell? ⟨b, 1, none⟩ = some (.slice none 0 0) := cell_of_ob ho 1
    go_enter Try.func12, Try.ntmps12
    go_wp2
    go_ret
    exact ⟨rfl, rfl⟩
theorem keysE (h : EmpAt w v) : Calls Try.prog 10 #[v] w fun e w' => e = .returned (.slice none 0 0) ∧ w = w' := by
  rcases h with rfl | ⟨b, rfl, ho⟩
  · go_enter Try.func10, Try.ntmps10
    go_wp2
    go_ret
    exact ⟨rfl, rfl⟩
  · have hb := ob_lt ho
    have c1 : w.cell? ⟨b, 1, none⟩ = some (.slice none 0 0) := cell_of_ob ho 1
    go_enter Try.func10, Try.ntmps10
    go_wp2_with fail
    go_enter Try.func25, Try.ntmps25
    go_wp2
    go_ret
    exact ⟨rfl, rfl⟩
theorem dropE (h : EmpAt w v) (f : Value) : Calls Try.prog 23 #[v, f] w fun e w' => e = .returned (.int .i64 0) ∧ EmpAt w' v ∧ Fr (empS v) w w' := by
  rcases h with rfl | ⟨b, rfl, ho⟩
  · go_enter Try.func23, Try.ntmps23
    go_wp2
    go_ret
    exact ⟨rfl, .inl rfl, Fr.refl _ _⟩
  · have hb := ob_lt ho
    have c1 : w.cell? ⟨b, 1, none⟩ = some (.slice none 0 0) := cell_of_ob ho 1
    have f1 := frozen_of_ob ho 1
    go_enter Try.func23, Try.ntmps23
    go_wp2
    go_loopw [6, 21] (fun l i wr => l = .slice none 0 0 ∧ i = .int .i64 0 ∧ wr = w) (fun _ _ _ => 0)
    case atStart => exact ⟨rfl, rfl, rfl⟩
    case round =>
      obtain ⟨rfl, rfl, rfl⟩ := hrel
      go_wp2
      go_ret
      exact ⟨rfl, .inr ⟨b, rfl, ob_setCell_same ho _⟩, (Fr.refl _ _).setCell _ _ (.inl rfl)⟩
theorem flushE (h : EmpAt w v) (x : K2) : Calls Try.prog 17 #[v, .agg #[.int .i64 x.1, .int .i64 x.2]] w fun e w' => e = .returned (.bool false) ∧ EmpAt w' v ∧ Fr (empS v) w w' := by
  go_enter Try.func17, Try.ntmps17
  go_wp2_with fail
  refine (dropE (h.fr ((Fr.refl (fun _ => False) w).alloc _) (fun _ _ h => h)) _).mono ?_
  rintro e w1 ⟨rfl, h1, hf⟩
  go_wp2
  go_ret
  exact ⟨rfl, h1, ((Fr.refl _ w).alloc _).step hf (fun k hk => .inl hk)⟩
theorem flushAsidE (h : EmpAt w v) (x : Int) : Calls Try.prog 11 #[v, .int .i64 x] w fun e w' => e = .returned (.int .i64 0) ∧ EmpAt w' v ∧ Fr (empS v) w w' := by
  go_enter Try.func11, Try.ntmps11
  go_wp2_with fail
  refine (dropE (h.fr ((Fr.refl (fun _ => False) w).alloc _) (fun _ _ h => h)) _).mono ?_
  rintro e w1 ⟨rfl, h1, hf⟩
  go_wp2
  go_ret
  exact ⟨rfl, h1, ((Fr.refl _ w).alloc _).step hf (fun k hk => .inl hk)⟩
theorem flushAllE (h : EmpAt w v) : Calls Try.prog 14 #[v] w fun e w' => e = .returned (.int .i64 0) ∧ EmpAt w' v ∧ Fr (empS v) w w' := by
  go_enter Try.func14, Try.ntmps14
  go_wp2_with fail
  refine (dropE h _).mono ?_
  rintro e w1 ⟨rfl, h1, hf⟩
  go_wp2
  go_ret
  exact ⟨rfl, h1, hf⟩
theorem findE (h : EmpAt w v) (k : K2) : Calls Try.prog 21 #[v, .agg #[.int .i64 k.1, .int .i64 k.2]] w fun e w' => e = .returned (.tuple #[k2 (0, 0), .bool false]) ∧ Fr (fun _ => False) w w' := by
  rcases h with rfl | ⟨b, rfl, ho⟩
  · go_enter Try.func21, Try.ntmps21
    go_wp2
    refine bodyPost_ret (v := .tuple #[k2 (0, 0), .bool false]) (by simp [results, Try.results21, go_sem, k2]) rfl ⟨rfl, ?_⟩
    exact ((Fr.refl _ _).alloc _).alloc _
  · have hb := ob_lt ho
    have c2 : w.cell? ⟨b, 2, none⟩ = some (.map none) := cell_of_ob ho 2
    go_enter Try.func21, Try.ntmps21
    go_wp2
    refine wp_region_canon [0, 1, 2, 3, 4, 5, 6, 7, 8, 9, 10, 11] (by kernel_rfl) (by kernel_rfl) (fun K hK => ?_)
    simp only [List.map_cons, List.map_nil, List.getD_cons_succ, List.getD_cons_zero]
    go_wp2_with (at_lookup; go_must (refine wpList_look2_nil rfl _ _ _ rfl rfl k rfl key_k2 Try.underlying56 zeroPTE ?_; simp only [k2]))
    refine hK _ _ (by kernel_rfl) ?_
    clear hK K
    go_wp2
    refine bodyPost_ret (v := .tuple #[k2 (0, 0), .bool false]) (by simp [results, Try.results21, go_sem, k2]) rfl ⟨rfl, ?_⟩
    exact (((Fr.refl _ _).alloc _).alloc _).alloc _ |>.drew
theorem putE (h : EmpAt w v) (k e0 : K2) : Calls Try.prog 9 #[v, .agg #[.int .i64 k.1, .int .i64 k.2], .agg #[.int .i64 e0.1, .int .i64 e0.2]] w fun e w' => e = .returned (.tuple #[]) ∧ Fr (fun _ => False) w w' := by
  rcases h with rfl | ⟨b, rfl, ho⟩
  · go_enter Try.func9, Try.ntmps9
    go_wp2
    exact bodyPost_ret (results_none Try.results9 _ _ _) rfl ⟨rfl, (((Fr.refl _ _).alloc _).alloc _).alloc _⟩
  · have hb := ob_lt ho
    have hb1 : b < w.heap.size + 1 := by omega
    have hb2 : b < w.heap.size + 1 + 1 := by omega
    have c2 : w.cell? ⟨b, 2, none⟩ = some (.map none) := cell_of_ob ho 2
    go_enter Try.func9, Try.ntmps9
    go_wp2
    exact bodyPost_ret (results_none Try.results9 _ _ _) rfl ⟨rfl, (((Fr.refl _ _).alloc _).alloc _).alloc _⟩
end
@[go_sem] theorem index0 (a b : Option Addr) (w : World) : (Instr.index 59 (.agg #[.pointer a, .pointer b]) (.int .i64 0)).run Try.prog w = .ok (.pointer a) w := by kernel_rfl
@[go_sem] theorem index1 (a b : Option Addr) (w : World) : (Instr.index 59 (.agg #[.pointer a, .pointer b]) (.int .i64 1)).run Try.prog w = .ok (.pointer b) w := by kernel_rfl
set_option maxHeartbeats 4000000 in
theorem none_walk (w : World) (kd : Int) (k e0 : K2) :
    Calls Try.prog 7 #[.agg #[.int .i64 kd, .int .i64 k.1, .int .i64 k.2, .int .i64 e0.1, .int .i64 e0.2]] w fun e w' => e = .returned (.bool true) ∧ Fr (fun _ => False) w w' := by
  go_enter Try.func7, Try.ntmps7
  go_wp2_with fail
  obtain ⟨W, hW⟩ : ∃ W, W = (w.alloc (.cells #[.int .i64 kd, .int .i64 k.1, .int .i64 k.2, .int .i64 e0.1, .int .i64 e0.2] 41)).alloc (.cells #[.int .i64 0, .slice none 0 0, .map none] 58) := ⟨_, rfl⟩
  rw [← hW]
  have hsz : W.heap.size = w.heap.size + 1 + 1 := by rw [hW]; simp
  have hfr : Fr (fun _ => False) w W := by rw [hW]; exact ((Fr.refl _ _).alloc _).alloc _
  have oa : ob W w.heap.size = some (.cells #[.int .i64 kd, .int .i64 k.1, .int .i64 k.2, .int .i64 e0.1, .int .i64 e0.2] 41 (0, 0)) := by
    rw [hW, ob_alloc _ _ _ (by simp only [World.size_alloc]; omega), ob_new]
  have oz : ob W (w.heap.size + 1) = some (.cells #[.int .i64 0, .slice none 0 0, .map none] 58 (0, 0)) := by
    rw [hW, ob_newAt _ _ _ (by simp)]
  have hz0 : w.heap.size < W.heap.size := by omega
  clear hW hsz
  go_loopw [9] (fun i wr => ∃ j : Nat, j ≤ 2 ∧ i = .int .i64 j ∧ Fr (fun q => q = w.heap.size + 1) W wr ∧ EmpAt wr (.pointer (some ⟨w.heap.size + 1, 0, none⟩))) (fun i _ => 2 - (intOf i).toNat)
  case atStart => exact ⟨0, by omega, rfl, Fr.refl _ _, .inr ⟨_, rfl, oz⟩⟩
  case round =>
    obtain ⟨j, hj, rfl, hf, hz⟩ := hrel
    rcases (by omega : j = 0 ∨ j = 1 ∨ j = 2) with rfl | rfl | rfl
    · have hE : EmpAt wr (.pointer none) := .inl rfl
      have h0 := hf.keep (by simp) oa
      have p1 : wr.cell? ⟨w.heap.size, 1, none⟩ = some (.int .i64 k.1) := cell_of_ob h0 1
      have p2 : wr.cell? ⟨w.heap.size, 2, none⟩ = some (.int .i64 k.2) := cell_of_ob h0 2
      have p3 : wr.cell? ⟨w.heap.size, 3, none⟩ = some (.int .i64 e0.1) := cell_of_ob h0 3
      have p4 : wr.cell? ⟨w.heap.size, 4, none⟩ = some (.int .i64 e0.2) := cell_of_ob h0 4
      have s0 := ob_lt h0
      go_wp2_with fail
      refine (putE hE k e0).mono ?_
      rintro e w2 ⟨rfl, g2⟩
      have h2 := g2.keep (by simp) h0
      have q1 : w2.cell? ⟨w.heap.size, 1, none⟩ = some (.int .i64 k.1) := cell_of_ob h2 1
      have q2 : w2.cell? ⟨w.heap.size, 2, none⟩ = some (.int .i64 k.2) := cell_of_ob h2 2
      have s2 := ob_lt h2
      clear p1 p2 p3 p4
      go_wp2_with fail
      have hE2 := hE.fr g2 (fun _ _ h => h)
      have hz2 := hz.fr g2 (fun _ _ h => h)
      refine (findE hE2 k).mono ?_
      rintro e w3 ⟨rfl, g3⟩
      have h3 := g3.keep (by simp) h2
      have r1 : w3.cell? ⟨w.heap.size, 1, none⟩ = some (.int .i64 k.1) := cell_of_ob h3 1
      have r2 : w3.cell? ⟨w.heap.size, 2, none⟩ = some (.int .i64 k.2) := cell_of_ob h3 2
      have s3 := ob_lt h3
      clear q1 q2
      simp only [k2]
      go_wp2_with fail
      have g3' := g3.alloc (.cells #[.int .i64 0, .int .i64 0] 29)
      refine (flushE (hE2.fr g3' (fun _ _ h => h)) k).mono ?_
      rintro e w4 ⟨rfl, hE4, g4⟩
      have h4 := g4.keep (by simp [empS]) ((g3'.keep (by simp) h2))
      have t1 : w4.cell? ⟨w.heap.size, 1, none⟩ = some (.int .i64 k.1) := cell_of_ob h4 1
      have s4 := ob_lt h4
      clear r1 r2
      go_wp2_with fail
      refine (flushAsidE hE4 k.1).mono ?_
      rintro e w5 ⟨rfl, hE5, g5⟩
      clear t1
      go_wp2_with fail
      refine (flushAllE hE5).mono ?_
      rintro e w6 ⟨rfl, hE6, g6⟩
      go_wp2_with fail
      refine (lenE hE6).mono ?_
      rintro e w7 ⟨rfl, rfl⟩
      go_wp2_with fail
      refine (keysE hE6).mono ?_
      rintro e w8 ⟨rfl, rfl⟩
      go_wp2
      go_roundw
      case rel =>
        refine ⟨1, by omega, rfl, ?_, ?_⟩
        · exact ((((hf.step g2 (fun _ h => h.elim)).step g3' (fun _ h => h.elim)).step g4 (fun q hq => .inl (by simp [empS] at hq ⊢; try exact hq.symm))).step g5 (fun q hq => .inl (by simp [empS] at hq ⊢; try exact hq.symm))).step g6 (fun q hq => .inl (by simp [empS] at hq ⊢; try exact hq.symm))
        · exact (((hz2.fr g3' (fun _ _ h => h)).fr g4 (by simp [empS])).fr g5 (by simp [empS])).fr g6 (by simp [empS])
      case measure => simp [intOf]
    · have hE : EmpAt wr (.pointer (some ⟨w.heap.size + 1, 0, none⟩)) := hz
      have h0 := hf.keep (by simp) oa
      have p1 : wr.cell? ⟨w.heap.size, 1, none⟩ = some (.int .i64 k.1) := cell_of_ob h0 1
      have p2 : wr.cell? ⟨w.heap.size, 2, none⟩ = some (.int .i64 k.2) := cell_of_ob h0 2
      have p3 : wr.cell? ⟨w.heap.size, 3, none⟩ = some (.int .i64 e0.1) := cell_of_ob h0 3
      have p4 : wr.cell? ⟨w.heap.size, 4, none⟩ = some (.int .i64 e0.2) := cell_of_ob h0 4
      have s0 := ob_lt h0
      go_wp2_with fail
      refine (putE hE k e0).mono ?_
      rintro e w2 ⟨rfl, g2⟩
      have h2 := g2.keep (by simp) h0
      have q1 : w2.cell? ⟨w.heap.size, 1, none⟩ = some (.int .i64 k.1) := cell_of_ob h2 1
      have q2 : w2.cell? ⟨w.heap.size, 2, none⟩ = some (.int .i64 k.2) := cell_of_ob h2 2
      have s2 := ob_lt h2
      clear p1 p2 p3 p4
      go_wp2_with fail
      have hE2 := hE.fr g2 (fun _ _ h => h)
      have hz2 := hz.fr g2 (fun _ _ h => h)
      refine (findE hE2 k).mono ?_
      rintro e w3 ⟨rfl, g3⟩
      have h3 := g3.keep (by simp) h2
      have r1 : w3.cell? ⟨w.heap.size, 1, none⟩ = some (.int .i64 k.1) := cell_of_ob h3 1
      have r2 : w3.cell? ⟨w.heap.size, 2, none⟩ = some (.int .i64 k.2) := cell_of_ob h3 2
      have s3 := ob_lt h3
      clear q1 q2
      simp only [k2]
      go_wp2_with fail
      have g3' := g3.alloc (.cells #[.int .i64 0, .int .i64 0] 29)
      refine (flushE (hE2.fr g3' (fun _ _ h => h)) k).mono ?_
      rintro e w4 ⟨rfl, hE4, g4⟩
      have h4 := g4.keep (by simp [empS]) ((g3'.keep (by simp) h2))
      have t1 : w4.cell? ⟨w.heap.size, 1, none⟩ = some (.int .i64 k.1) := cell_of_ob h4 1
      have s4 := ob_lt h4
      clear r1 r2
      go_wp2_with fail
      refine (flushAsidE hE4 k.1).mono ?_
      rintro e w5 ⟨rfl, hE5, g5⟩
      clear t1
      go_wp2_with fail
      refine (flushAllE hE5).mono ?_
      rintro e w6 ⟨rfl, hE6, g6⟩
      go_wp2_with fail
      refine (lenE hE6).mono ?_
      rintro e w7 ⟨rfl, rfl⟩
      go_wp2_with fail
      refine (keysE hE6).mono ?_
      rintro e w8 ⟨rfl, rfl⟩
      go_wp2
      go_roundw
      case rel =>
        refine ⟨2, by omega, rfl, ?_, ?_⟩
        · exact ((((hf.step g2 (fun _ h => h.elim)).step g3' (fun _ h => h.elim)).step g4 (fun q hq => .inl (by simp [empS] at hq ⊢; try exact hq.symm))).step g5 (fun q hq => .inl (by simp [empS] at hq ⊢; try exact hq.symm))).step g6 (fun q hq => .inl (by simp [empS] at hq ⊢; try exact hq.symm))
        · exact hE6
      case measure => simp [intOf]
    · go_wp2_with fail
      refine (lives_any _).mono ?_
      rintro e w7 ⟨rfl, hf7⟩
      go_wp2
      go_ret
      exact ⟨rfl, (hfr.step hf (fun k hk => .inr (by omega))).step hf7 (fun _ h => h.elim)⟩
end Go.Proofs.Ytehgfhcpjeepkaa
