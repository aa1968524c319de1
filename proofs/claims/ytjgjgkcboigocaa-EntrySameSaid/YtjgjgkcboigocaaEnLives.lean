/- pantrylaw15.lives. No conditions. -/
import Derived.Test.YtjgjgkcboigocaaEnMerge
import Derived.Test.YtjgjgkcboigocaaEnRight
import Derived.Test.YtjgjgkcboigocaaEnRoom
import Derived.Test.YtjgjgkcboigocaaEnClip
namespace Go.Proofs.Ytjgjgkcboigocaa
open Go.RowKit
set_option linter.unusedSimpArgs false
set_option linter.unusedVariables false
def livE : Ent := ⟨2, 6, 0, 0, false, 0, 0, 0, 0, false⟩
def livA : Ent := ⟨2, 4, 0, 0, false, 0, 0, 0, 0, false⟩
def livB : Ent := ⟨4, 6, 0, 0, false, 0, 0, 0, 0, false⟩
theorem liv1 : rightB 0 [livE] = true := by decide
theorem liv2 : clipL [livE] 4 = [livA, livB] := by
  unfold clipL clip1 livE livA livB cutA cutB
  simp
theorem liv3 : rightB 0 [livA, livB] = true := by decide
theorem liv4 : mergeL [livA, livB] = [livE] := by
  show (if onE livA livB = livB then mergeC (joinE livA livB) [] else livA :: mergeC livB []) = [livE]
  rw [if_pos (Ent.eqb_iff.1 (by decide))]
  rfl
theorem liv5 : spaceF [livE] 1 1 = (1, true) := by decide
theorem liv6 : spaceF [livE] 1 2 = (6, true) := by decide
set_option maxRecDepth 100000 in
set_option maxHeartbeats 4000000 in
theorem lives_any (w : World) : Calls Try.prog 12 #[] w fun e w' => e = .returned (.bool true) ∧ Fr (fun _ => False) w w' := by
  obtain ⟨W, hW⟩ : ∃ W, W = w.alloc (.cells #[.int .i64 2, .int .i64 6, .int .i64 0, .int .i64 0, .bool false, .int .i64 0, .int .i64 0, .int .i64 0, .int .i64 0, .bool false] 27) := ⟨_, rfl⟩
  have hsl : SE W (.slice (some ⟨w.heap.size, 0, none⟩) 1 1) [livE] := by rw [hW]; exact Sl.built w _ 1 rfl (by decide)
  have hfW : Fr (fun _ => False) w W := by rw [hW]; exact (Fr.refl _ w).alloc _
  have hR : Rd W 10 (.slice (some ⟨w.heap.size, 0, none⟩) 1 1) ([livE].flatMap ent) := Sl.rd hsl
  go_enter Try.func12, Try.ntmps12
  go_wp2_with fail
  change Calls _ _ _ (w.alloc (.cells #[.int .i64 2, .int .i64 6, .int .i64 0, .int .i64 0, .bool false, .int .i64 0, .int .i64 0, .int .i64 0, .int .i64 0, .bool false] 27)) _
  rw [← hW]
  clear hW
  refine (clip_any hR (by simp) liv1 4).mono ?_
  rintro e w1 ⟨v1, rfl, hs1, hf1, ho1⟩
  rw [liv2] at hs1
  obtain ⟨A, N, C, rfl⟩ := hs1.shape
  obtain rfl : N = 2 := SE.elen hs1
  have hr1 := hR.of hf1 (fun _ h => h.elim)
  go_wp2_with fail
  have hsp := space_any hr1 (by simp) liv1 ⟨Nat.le_refl _, by decide⟩ 1 1
  rw [liv5] at hsp
  refine hsp.mono ?_
  rintro e w2 ⟨rfl, hf2⟩
  have hr2 := hr1.of hf2 (fun _ h => h.elim)
  clear hsp
  go_wp2_with fail
  have hsp := space_any hr2 (by simp) liv1 ⟨Nat.le_refl _, by decide⟩ 1 2
  rw [liv6] at hsp
  refine hsp.mono ?_
  rintro e w3 ⟨rfl, hf3⟩
  have hr3 := hr2.of hf3 (fun _ h => h.elim)
  have hs3 := (hs1.fr hf2 (fun _ _ h => h)).fr hf3 (fun _ _ h => h)
  obtain ⟨g, off, n, cap, heq, hgl, -, -, c0, c1, -⟩ := SE.entry hs3 (j := 0) (x := livA) rfl
  obtain ⟨g', off', n', cap', heq', hgl', -, -, d0, -⟩ := SE.entry hs3 (j := 1) (x := livB) rfl
  cases heq
  cases heq'
  simp only [livA, livB] at c0 c1 d0
  clear hsp
  go_wp2_with fail
  refine (merge_any (Sl.rd hs3) (by simp) liv3).mono ?_
  rintro e w4 ⟨v4, rfl, hs4, hf4, ho4⟩
  rw [liv4] at hs4
  obtain ⟨A4, N4, C4, rfl⟩ := hs4.shape
  obtain rfl : N4 = 1 := SE.elen hs4
  go_wp2_with fail
  refine (same_any (Sl.rd hs4) (hr3.of hf4 (fun _ h => h.elim)) (by simp) (by simp)).mono ?_
  rw [show decide ([livE] = [livE]) = true from decide_eq_true rfl]
  rintro e w5 ⟨rfl, hf5⟩
  go_wp2
  go_ret
  exact ⟨rfl, ((((hfW.also hf1).also hf2).also hf3).also hf4).also hf5⟩
end Go.Proofs.Ytjgjgkcboigocaa
