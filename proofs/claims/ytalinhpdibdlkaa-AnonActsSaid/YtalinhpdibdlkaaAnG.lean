/- anon.Pool: Len, Put. Conditions: bounds on lengths. -/
import Derived.Test.YtalinhpdibdlkaaAnF
namespace Go.Proofs.Ytalinhpdibdlkaa
open Go.RowKit
set_option linter.unusedSimpArgs false
set_option linter.unusedVariables false
theorem cfPut (args : Array Value) (W : World) : (callFunc 30 args).run Try.prog W = .ok (.enter 30 args) W := by kernel_rfl
/-- What putting it elsewhere makes of an anon. -/
def putRes (f s : Int) (a : A3) : Int × A3 := (0, (a.1, f, s))
set_option maxRecDepth 100000 in
set_option maxHeartbeats 2000000 in
theorem putFn_any (W : World) (a : A3) (ba q p : Nat) (x y : Int) (hoa : ob W ba = some (.cells #[.int .i64 a.1, .int .i64 a.2.1, .int .i64 a.2.2] 32 (0, 0))) (hq : W.cell? ⟨q, 0, none⟩ = some (.int .i64 x)) (hp : W.cell? ⟨p, 0, none⟩ = some (.int .i64 y)) (hqb : q ≠ ba) (hpb : p ≠ ba) :
    Calls Try.prog 30 (#[.pointer (some ⟨ba, 0, none⟩)] ++ #[.pointer (some ⟨q, 0, none⟩), .pointer (some ⟨p, 0, none⟩)]) W fun e W' => e = .returned (.int .i64 (putRes x y a).1) ∧ ob W' ba = some (.cells #[.int .i64 (putRes x y a).2.1, .int .i64 (putRes x y a).2.2.1, .int .i64 (putRes x y a).2.2.2] 32 (0, 0)) ∧ Fr (fun k => k = ba) W W' := by
  obtain ⟨r, f, s⟩ := a
  dsimp only at hoa
  have c1 : W.cell? ⟨ba, 1, none⟩ = some (.int .i64 f) := cell_of_ob hoa 1
  have c2 : W.cell? ⟨ba, 2, none⟩ = some (.int .i64 s) := cell_of_ob hoa 2
  have f1 : W.frozen? ⟨ba, 1, none⟩ = false := frozen_of_ob hoa 1
  have f2 : W.frozen? ⟨ba, 2, none⟩ = false := frozen_of_ob hoa 2
  have hbl := ob_lt hoa
  have hql := World.block_lt_of_cell? W _ hq
  have hpl := World.block_lt_of_cell? W _ hp
  go_enter Try.func30, Try.ntmps30
  go_wp2
  go_region
  all_goals (
    go_wp2
    go_ret
    refine ⟨rfl, ?_, ?_⟩
    · first
        | exact ob_setCell_same (i := 2) (ob_setCell_same (w := W.drew) (i := 1) hoa (.int .i64 x)) (.int .i64 y)
        | exact ob_setCell_same (i := 1) (ob_setCell_same (w := W.drew) (i := 2) hoa (.int .i64 y)) (.int .i64 x)
        | exact ob_setCell_same (i := 2) (ob_setCell_same (w := W) (i := 1) hoa (.int .i64 x)) (.int .i64 y)
        | exact ob_setCell_same (i := 1) (ob_setCell_same (w := W) (i := 2) hoa (.int .i64 y)) (.int .i64 x)
    · first
        | exact ((((Fr.refl (fun k => k = ba) W).drew).setCell ⟨ba, 1, none⟩ _ (.inl rfl)).setCell ⟨ba, 2, none⟩ _ (.inl rfl))
        | exact ((((Fr.refl (fun k => k = ba) W).drew).setCell ⟨ba, 2, none⟩ _ (.inl rfl)).setCell ⟨ba, 1, none⟩ _ (.inl rfl))
        | exact ((((Fr.refl (fun k => k = ba) W)).setCell ⟨ba, 1, none⟩ _ (.inl rfl)).setCell ⟨ba, 2, none⟩ _ (.inl rfl)).drew
        | exact ((((Fr.refl (fun k => k = ba) W)).setCell ⟨ba, 2, none⟩ _ (.inl rfl)).setCell ⟨ba, 1, none⟩ _ (.inl rfl)).drew)
section
variable {Pr : Nat → Prop} {W1 w w1 : World} {b m : Nat} {most last : Int} {free : List Int} {l : List (Int × A3)} {id' : Int}
theorem len_any (h : PoolX Pr W1 w b m most last free l) : Calls Try.prog 15 #[.pointer (some ⟨b, 0, none⟩)] w fun e w' => e = .returned (.int .i64 l.length) ∧ w' = w := by
  obtain ⟨fv, hT, _⟩ := h
  have c2 : w.cell? ⟨b, 2, none⟩ = some (.map (some m)) := cell_of_ob hT.blk 2
  go_enter Try.func15, Try.ntmps15
  go_wp2_with fail
  refine (made_any hT).mono ?_
  rintro e w1 ⟨rfl, rfl⟩
  go_wp2_with (at_len; go_must (refine wpList_maplen rfl _ _ _ rfl rfl Try.underlying60 (hT.all.of rfl) ?_))
  go_ret
  exact ⟨rfl, rfl⟩
set_option maxRecDepth 100000 in
theorem put_any (h : PoolX Pr W1 w b m most last free l) (hf : free.length ≤ 100000) (x y : Int) :
    Calls Try.prog 16 #[.pointer (some ⟨b, 0, none⟩), .int .i64 id', .int .i64 x, .int .i64 y] w fun e w' =>
      ∃ z er, e = .returned (.int .i64 er) ∧ ∃ free' l', ChOut (putRes x y) free l id' z er free' l' ∧ PoolX Pr W1 w' b m most last free' l' := by
  have hfw : Fr (fun _ => False) w ((w.alloc (.cells #[.int .i64 x] 3)).alloc (.cells #[.int .i64 y] 3)) := ((Fr.refl _ _).alloc _).alloc _
  have oq : ob ((w.alloc (.cells #[.int .i64 x] 3)).alloc (.cells #[.int .i64 y] 3)) w.heap.size = some (.cells #[.int .i64 x] 3 (0, 0)) := by
    rw [ob_alloc _ _ _ (by simp only [World.size_alloc]; omega), ob_new]
  have op : ob ((w.alloc (.cells #[.int .i64 x] 3)).alloc (.cells #[.int .i64 y] 3)) (w.heap.size + 1) = some (.cells #[.int .i64 y] 3 (0, 0)) := ob_newAt _ _ _ (by simp)
  go_enter Try.func16, Try.ntmps16
  go_wp2_with fail
  refine (change_any (h.keep hfw) hf id' _ _ (putRes x y) cfPut (fun W a ba hg hW hba hoa => ?_)).mono ?_
  · have oq2 := hW.keep (fun h => h) oq
    have op2 := hW.keep (fun h => h) op
    simp at hba
    exact putFn_any W a ba w.heap.size (w.heap.size + 1) x y hoa (cell_of_ob oq2 0) (cell_of_ob op2 0) (by omega) (by omega)
  rintro e w2 ⟨⟨y1, y2, y3⟩, er, rfl, free', l', hc, hX⟩
  simp only [a3]
  go_wp2_with fail
  go_ret
  exact ⟨_, _, rfl, free', l', hc, hX.keep ((Fr.refl _ _).alloc _)⟩
end
end Go.Proofs.Ytalinhpdibdlkaa
