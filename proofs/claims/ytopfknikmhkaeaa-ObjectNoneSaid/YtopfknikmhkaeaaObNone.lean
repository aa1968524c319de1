/- ObjectNone returns true: objects that no call made; the walk. No conditions. -/
import Derived.Test.YtopfknikmhkaeaaObE
import Derived.Test.YtopfknikmhkaeaaMarks
import Derived.LoopN
import Derived.WalkKit
import Derived.OwnWalkIn
import Derived.TacticsInMore
import Derived.Deep.CutBlock
import Derived.Deep.RegionHeld3
namespace Go.Proofs.Ytopfknikmhkaeaa
open Go.RowKit
set_option linter.unusedSimpArgs false
set_option linter.unusedVariables false
attribute [local go_sem] Oper.semAt_some
set_option maxRecDepth 100000 in
set_option maxHeartbeats 4000000 in
theorem page1E_in {pa : Option Addr} (nf lp bx bi bl bh : Nat) (id : Int) (J : List (Int × Pg) → World → Prop)
    (W : World) (h : EmpO W pa) (ox : ob W bx = some (.cells #[.pointer pa] 24 (0, 0))) (oi : ob W bi = some (.cells #[.int .i64 id] 3 (0, 0))) (h0 : J [] W) (Jx : List (Int × Pg) → World → Prop) :
    CallsIn Fence.wide nf Try.prog 36 #[.func (.yield lp) #[] #[], .pointer (some ⟨bx, 0, none⟩), .pointer (some ⟨bi, 0, none⟩), .pointer (some ⟨bl, 0, none⟩), .pointer (some ⟨bh, 0, none⟩)] W fun e W' => (∃ v, e = .returned v) ∧
      ((∃ ys : List (Int × Pg), ys = [] ∧ J ys W') ∨ (∃ pre : List (Int × Pg), pre <+: [] ∧ Jx pre W')) := by
  have cx := cell_of_ob ox 0
  have ci := cell_of_ob oi 0
  have his := ofE h id
  refine callsIn_of_wp Try.func36 rfl trivial ?_ rfl
  simp only [Try.ntmps36, List.size_toArray, List.length_cons, List.length_nil, Nat.reduceAdd, Nat.reduceSub, Array.replicate_succ, Array.replicate_zero, List.push_toArray, List.append_toArray, List.nil_append, List.cons_append]
  refine wpIn_wide.2 ?_
  go_wp2_with fail
  refine his.mono ?_
  rintro e w1 ⟨rfl, rfl⟩
  go_wp2
  refine bodyPost_ret (results_none rfl _ _ _) rfl ?_
  exact ⟨⟨_, rfl⟩, .inl ⟨_, rfl, h0⟩⟩
theorem page1E_stops {pa : Option Addr} (D : World → Nat → Prop) (nf bx bi bl bh : Nat) (id : Int)
    (w : World) (h : EmpO w pa) (ox : ob w bx = some (.cells #[.pointer pa] 24 (0, 0))) (oi : ob w bi = some (.cells #[.int .i64 id] 3 (0, 0))) :
    SeqStopsK Fence.wide nf Try.prog 36 #[.pointer (some ⟨bx, 0, none⟩), .pointer (some ⟨bi, 0, none⟩), .pointer (some ⟨bl, 0, none⟩), .pointer (some ⟨bh, 0, none⟩)] (fun x : Int × Pg => #[.int .i64 x.1, pgV x.2]) (K2 D) (fun ys => ys = []) (fun pre => pre <+: []) 0 w :=
  fun l J Jx W hW hJ hJx hY h0 => by
    have hf : Fr (fun _ => False) w W := Fr.of_below hW
    exact page1E_in nf l bx bi bl bh id J W (h.fr hf) (hf.keep (fun h => h) ox) (hf.keep (fun h => h) oi) h0 Jx
@[go_sem] theorem index0O (a b : Option Addr) (w : World) : (Instr.index 69 (.agg #[.pointer a, .pointer b]) (.int .i64 0)).run Try.prog w = .ok (.pointer a) w := by kernel_rfl
@[go_sem] theorem index1O (a b : Option Addr) (w : World) : (Instr.index 69 (.agg #[.pointer a, .pointer b]) (.int .i64 1)).run Try.prog w = .ok (.pointer b) w := by kernel_rfl
set_option maxRecDepth 100000 in
set_option maxHeartbeats 8000000 in
theorem none_walk (w : World) (kd id va f s : Int) (d : Bool) :
    Calls Try.prog 7 #[.agg #[.int .i64 kd, .int .i64 id, .int .i64 va, .int .i64 f, .int .i64 s, .bool d]] w fun e w' => e = .returned (.bool true) ∧ Fr (fun _ => False) w w' := by
  refine (callsIn_wide (n := 9)).1 ?_
  refine callsIn_of_wp_marks Try.func7 rfl trivial ?_ rfl
  simp only [Try.ntmps7, List.size_toArray, List.length_cons, List.length_nil, Nat.reduceAdd, Nat.reduceSub, Array.replicate_succ, Array.replicate_zero, List.push_toArray, List.append_toArray, List.nil_append, List.cons_append]
  refine wpIn_wide.2 ?_
  have heq := fun w f x y => eql_func_nil (P := Try.prog) w 44 f x y Try.underlying44
  go_wp2_with fail
  obtain ⟨W, hW⟩ : ∃ W, W = ((w.alloc (.cells #[.int .i64 kd, .int .i64 id, .int .i64 va, .int .i64 f, .int .i64 s, .bool d] 52)).alloc (.cells #[.bool false] 4)).alloc (.cells #[.int .i64 0, .bool false, .map none] 68) := ⟨_, rfl⟩
  rw [← hW]
  have hfr : Fr (fun _ => False) w W := by rw [hW]; exact (((Fr.refl _ _).alloc _).alloc _).alloc _
  have oa0 : ob W w.heap.size = some (.cells #[.int .i64 kd, .int .i64 id, .int .i64 va, .int .i64 f, .int .i64 s, .bool d] 52 (0, 0)) := by rw [hW, ob_alloc _ _ _ (by simp <;> omega), ob_alloc _ _ _ (by simp <;> omega), ob_newAt _ _ _ (by simp <;> omega)]
  have oc0 : ob W (w.heap.size + 1) = some (.cells #[.bool false] 4 (0, 0)) := by rw [hW, ob_alloc _ _ _ (by simp <;> omega), ob_newAt _ _ _ (by simp <;> omega)]
  have oz0 : ob W (w.heap.size + 1 + 1) = some (.cells #[.int .i64 0, .bool false, .map none] 68 (0, 0)) := by rw [hW, ob_newAt _ _ _ (by simp <;> omega)]
  obtain ⟨ba, hba⟩ : ∃ k, w.heap.size = k := ⟨_, rfl⟩
  rw [hba] at oa0 oc0 oz0 ⊢
  have HBA := Lib.hid hba
  clear hW hba
  go_wp2_with fail
  refine wp_loop_rounds 3 ?_
  rw [rounds_succ]

  -- round 0
  have hE0 : EmpO W none := .inl rfl
  have p1 := cell_of_ob oa0 1
  have p2 := cell_of_ob oa0 2
  have p3 := cell_of_ob oa0 3
  have p4 := cell_of_ob oa0 4
  have p5 := cell_of_ob oa0 5
  have s0 := ob_lt oa0
  go_wp2_with fail
  refine (makeE hE0 va).mono ?_
  rintro e v ⟨rfl, hv⟩; rw [hv]; clear hv v
  go_wp2_with fail
  refine (refE hE0 id va).mono ?_
  rintro e v ⟨rfl, hv⟩; rw [hv]; clear hv v
  go_wp2_with fail
  refine (getE hE0 id va).mono ?_
  rintro e v0 ⟨rfl, hf0⟩
  clear p1 p2 p3 p4 p5
  go_wp2_with fail
  have hf0' := hf0.alloc (.cells #[.int .i64 0, .int .i64 0, .bool false] 34)
  obtain ⟨x0, hx0⟩ : ∃ x0, v0.alloc (.cells #[.int .i64 0, .int .i64 0, .bool false] 34) = x0 := ⟨_, rfl⟩
  rw [hx0] at hf0'
  have oa0x := hf0'.keep (fun h => h) oa0
  have hE0x := hE0.fr hf0'
  have HO0 := Lib.hid oa0x
  have hS0 : x0.cell? ⟨ba, 1, none⟩ = some (.int .i64 id) ∧ x0.cell? ⟨ba, 2, none⟩ = some (.int .i64 va) ∧ x0.cell? ⟨ba, 3, none⟩ = some (.int .i64 f) ∧ x0.cell? ⟨ba, 4, none⟩ = some (.int .i64 s) ∧ x0.cell? ⟨ba, 5, none⟩ = some (.bool d) := ⟨cell_of_ob oa0x 1, cell_of_ob oa0x 2, cell_of_ob oa0x 3, cell_of_ob oa0x 4, cell_of_ob oa0x 5⟩
  rw [hx0]
  clear hx0
  go_region_held3 (fun w' => w'.cell? ⟨ba, 1, none⟩ = some (.int .i64 id) ∧ w'.cell? ⟨ba, 2, none⟩ = some (.int .i64 va) ∧ w'.cell? ⟨ba, 3, none⟩ = some (.int .i64 f) ∧ w'.cell? ⟨ba, 4, none⟩ = some (.int .i64 s) ∧ w'.cell? ⟨ba, 5, none⟩ = some (.bool d)) (first | exact hS0 | assumption | go_keep)
    (first
      | (go_at_call 12; refine (putE (hE0x.fr (Fr.refl _ _).drew) _ _ _ _ _).mono ?_; rintro e y0 ⟨rfl, hy0⟩; have hY0 : Fr (fun _ => False) x0 y0 := (Fr.refl _ x0).drew.step hy0 (fun _ h => h.elim); have hE0y := hE0x.fr hY0; have hS0y := (show y0.cell? ⟨ba, 1, none⟩ = some (.int .i64 id) ∧ y0.cell? ⟨ba, 2, none⟩ = some (.int .i64 va) ∧ y0.cell? ⟨ba, 3, none⟩ = some (.int .i64 f) ∧ y0.cell? ⟨ba, 4, none⟩ = some (.int .i64 s) ∧ y0.cell? ⟨ba, 5, none⟩ = some (.bool d) from ⟨cell_of_ob (hY0.keep (fun h => h) HO0.out) 1, cell_of_ob (hY0.keep (fun h => h) HO0.out) 2, cell_of_ob (hY0.keep (fun h => h) HO0.out) 3, cell_of_ob (hY0.keep (fun h => h) HO0.out) 4, cell_of_ob (hY0.keep (fun h => h) HO0.out) 5⟩))
      | (go_at_call 16; refine (dropE hE0y _ _).mono ?_; rintro e z0 ⟨rfl, hz0⟩; have hZ0 : Fr (fun _ => False) x0 z0 := hY0.step hz0 (fun _ h => h.elim); have hE0z := hE0x.fr hZ0; have hS0z := (show z0.cell? ⟨ba, 1, none⟩ = some (.int .i64 id) ∧ z0.cell? ⟨ba, 2, none⟩ = some (.int .i64 va) ∧ z0.cell? ⟨ba, 3, none⟩ = some (.int .i64 f) ∧ z0.cell? ⟨ba, 4, none⟩ = some (.int .i64 s) ∧ z0.cell? ⟨ba, 5, none⟩ = some (.bool d) from ⟨cell_of_ob (hZ0.keep (fun h => h) HO0.out) 1, cell_of_ob (hZ0.keep (fun h => h) HO0.out) 2, cell_of_ob (hZ0.keep (fun h => h) HO0.out) 3, cell_of_ob (hZ0.keep (fun h => h) HO0.out) 4, cell_of_ob (hZ0.keep (fun h => h) HO0.out) 5⟩))
      | (go_at_call 14; refine (of2E hE0z _).mono ?_; rintro e v ⟨rfl, hv⟩; rw [hv]; clear hv v)
      | (go_at_call 15; refine (fileE hE0z _).mono ?_; rintro e v ⟨rfl, hv⟩; rw [hv]; clear hv v)
      | (go_at_call 18; refine (idsE hE0z).mono ?_; rintro e v ⟨rfl, hv⟩; rw [hv]; clear hv v))
  have hfz0 : Fr (fun _ => False) W z0 := hf0'.step hZ0 (fun _ h => h.elim)
  have q1 := hS0z.1
  have s1 := ob_lt (hfz0.keep (fun h => h) oa0)
  have hE0w := hE0.fr hfz0
  clear hS0 hS0y hS0z s0 hE0x hE0y hE0z hZ0 hz0 hY0 hy0 HO0 hf0
  go_wp2_with fail
  refine (pages_any none id 0 4096 z0).mono ?_
  rintro e t0 ⟨rfl, ht0⟩
  have hft0 : Fr (fun _ => False) z0 t0 := by rw [ht0]; exact ((((Fr.refl _ _).alloc _).alloc _).alloc _).alloc _
  have ox0 : ob t0 z0.heap.size = some (.cells #[.pointer none] 24 (0, 0)) := by rw [ht0, ob_alloc _ _ _ (by simp <;> omega), ob_alloc _ _ _ (by simp <;> omega), ob_alloc _ _ _ (by simp <;> omega), ob_newAt _ _ _ (by simp <;> omega)]
  have oi0 : ob t0 (z0.heap.size + 1) = some (.cells #[.int .i64 id] 3 (0, 0)) := by rw [ht0, ob_alloc _ _ _ (by simp <;> omega), ob_alloc _ _ _ (by simp <;> omega), ob_newAt _ _ _ (by simp <;> omega)]
  clear ht0 q1
  go_wp2_with fail
  refine (wpIn_wide (n := 9)).1 ?_
  refine wpIn_range_empty rfl (by decide) (gf := 36) (lb := #[.pointer (some ⟨z0.heap.size, 0, none⟩), .pointer (some ⟨z0.heap.size + 1, 0, none⟩), .pointer (some ⟨z0.heap.size + 2, 0, none⟩), .pointer (some ⟨z0.heap.size + 3, 0, none⟩)]) rfl trivial (Go.Proofs.enters_of Try.func36 (by kernel_rfl) rfl)
    (page1E_stops (fun _ _ => False) 8 z0.heap.size (z0.heap.size + 1) (z0.heap.size + 2) (z0.heap.size + 3) id t0 (hE0w.fr hft0) ox0 oi0) (fun _ => rfl) ?_
  intro D0 u0 hD0 hB0 hK0
  have hfu0 : Fr (fun _ => False) W u0 := (hfz0.step hft0 (fun _ h => h.elim)).step hB0 (fun _ h => h.elim)
  have oa1 := hfu0.keep (fun h => h) oa0
  have oc1 := hfu0.keep (fun h => h) oc0
  have oz1 := hfu0.keep (fun h => h) oz0
  have hD0s : W.heap.size ≤ D0 := by have := hfz0.size; have := hft0.size; omega
  clear hB0 ox0 oi0 s1
  go_wp2_with fail
  rw [rounds_succ]

  -- round 1
  have hE1 : EmpO u0 (some ⟨ba + 1 + 1, 0, none⟩) := .inr ⟨_, rfl, oz1⟩
  have p1 := cell_of_ob oa1 1
  have p2 := cell_of_ob oa1 2
  have p3 := cell_of_ob oa1 3
  have p4 := cell_of_ob oa1 4
  have p5 := cell_of_ob oa1 5
  have s0 := ob_lt oa1
  go_wp2_with fail
  refine (makeE hE1 va).mono ?_
  rintro e v ⟨rfl, hv⟩; rw [hv]; clear hv v
  go_wp2_with fail
  refine (refE hE1 id va).mono ?_
  rintro e v ⟨rfl, hv⟩; rw [hv]; clear hv v
  go_wp2_with fail
  refine (getE hE1 id va).mono ?_
  rintro e v1 ⟨rfl, hf1⟩
  clear p1 p2 p3 p4 p5
  go_wp2_with fail
  have hf1' := hf1.alloc (.cells #[.int .i64 0, .int .i64 0, .bool false] 34)
  obtain ⟨x1, hx1⟩ : ∃ x1, v1.alloc (.cells #[.int .i64 0, .int .i64 0, .bool false] 34) = x1 := ⟨_, rfl⟩
  rw [hx1] at hf1'
  have oa1x := hf1'.keep (fun h => h) oa1
  have hE1x := hE1.fr hf1'
  have HO1 := Lib.hid oa1x
  have hS1 : x1.cell? ⟨ba, 1, none⟩ = some (.int .i64 id) ∧ x1.cell? ⟨ba, 2, none⟩ = some (.int .i64 va) ∧ x1.cell? ⟨ba, 3, none⟩ = some (.int .i64 f) ∧ x1.cell? ⟨ba, 4, none⟩ = some (.int .i64 s) ∧ x1.cell? ⟨ba, 5, none⟩ = some (.bool d) := ⟨cell_of_ob oa1x 1, cell_of_ob oa1x 2, cell_of_ob oa1x 3, cell_of_ob oa1x 4, cell_of_ob oa1x 5⟩
  rw [hx1]
  clear hx1
  go_region_held3 (fun w' => w'.cell? ⟨ba, 1, none⟩ = some (.int .i64 id) ∧ w'.cell? ⟨ba, 2, none⟩ = some (.int .i64 va) ∧ w'.cell? ⟨ba, 3, none⟩ = some (.int .i64 f) ∧ w'.cell? ⟨ba, 4, none⟩ = some (.int .i64 s) ∧ w'.cell? ⟨ba, 5, none⟩ = some (.bool d)) (first | exact hS1 | assumption | go_keep)
    (first
      | (go_at_call 12; refine (putE (hE1x.fr (Fr.refl _ _).drew) _ _ _ _ _).mono ?_; rintro e y1 ⟨rfl, hy1⟩; have hY1 : Fr (fun _ => False) x1 y1 := (Fr.refl _ x1).drew.step hy1 (fun _ h => h.elim); have hE1y := hE1x.fr hY1; have hS1y := (show y1.cell? ⟨ba, 1, none⟩ = some (.int .i64 id) ∧ y1.cell? ⟨ba, 2, none⟩ = some (.int .i64 va) ∧ y1.cell? ⟨ba, 3, none⟩ = some (.int .i64 f) ∧ y1.cell? ⟨ba, 4, none⟩ = some (.int .i64 s) ∧ y1.cell? ⟨ba, 5, none⟩ = some (.bool d) from ⟨cell_of_ob (hY1.keep (fun h => h) HO1.out) 1, cell_of_ob (hY1.keep (fun h => h) HO1.out) 2, cell_of_ob (hY1.keep (fun h => h) HO1.out) 3, cell_of_ob (hY1.keep (fun h => h) HO1.out) 4, cell_of_ob (hY1.keep (fun h => h) HO1.out) 5⟩))
      | (go_at_call 16; refine (dropE hE1y _ _).mono ?_; rintro e z1 ⟨rfl, hz1⟩; have hZ1 : Fr (fun _ => False) x1 z1 := hY1.step hz1 (fun _ h => h.elim); have hE1z := hE1x.fr hZ1; have hS1z := (show z1.cell? ⟨ba, 1, none⟩ = some (.int .i64 id) ∧ z1.cell? ⟨ba, 2, none⟩ = some (.int .i64 va) ∧ z1.cell? ⟨ba, 3, none⟩ = some (.int .i64 f) ∧ z1.cell? ⟨ba, 4, none⟩ = some (.int .i64 s) ∧ z1.cell? ⟨ba, 5, none⟩ = some (.bool d) from ⟨cell_of_ob (hZ1.keep (fun h => h) HO1.out) 1, cell_of_ob (hZ1.keep (fun h => h) HO1.out) 2, cell_of_ob (hZ1.keep (fun h => h) HO1.out) 3, cell_of_ob (hZ1.keep (fun h => h) HO1.out) 4, cell_of_ob (hZ1.keep (fun h => h) HO1.out) 5⟩))
      | (go_at_call 14; refine (of2E hE1z _).mono ?_; rintro e v ⟨rfl, hv⟩; rw [hv]; clear hv v)
      | (go_at_call 15; refine (fileE hE1z _).mono ?_; rintro e v ⟨rfl, hv⟩; rw [hv]; clear hv v)
      | (go_at_call 18; refine (idsE hE1z).mono ?_; rintro e v ⟨rfl, hv⟩; rw [hv]; clear hv v))
  have hfz1 : Fr (fun _ => False) u0 z1 := hf1'.step hZ1 (fun _ h => h.elim)
  have q1 := hS1z.1
  have s1 := ob_lt (hfz1.keep (fun h => h) oa1)
  have hE1w := hE1.fr hfz1
  clear hS1 hS1y hS1z s0 hE1x hE1y hE1z hZ1 hz1 hY1 hy1 HO1 hf1
  go_wp2_with fail
  refine (pages_any (some ⟨ba + 1 + 1, 0, none⟩) id 0 4096 z1).mono ?_
  rintro e t1 ⟨rfl, ht1⟩
  have hft1 : Fr (fun _ => False) z1 t1 := by rw [ht1]; exact ((((Fr.refl _ _).alloc _).alloc _).alloc _).alloc _
  have ox1 : ob t1 z1.heap.size = some (.cells #[.pointer (some ⟨ba + 1 + 1, 0, none⟩)] 24 (0, 0)) := by rw [ht1, ob_alloc _ _ _ (by simp <;> omega), ob_alloc _ _ _ (by simp <;> omega), ob_alloc _ _ _ (by simp <;> omega), ob_newAt _ _ _ (by simp <;> omega)]
  have oi1 : ob t1 (z1.heap.size + 1) = some (.cells #[.int .i64 id] 3 (0, 0)) := by rw [ht1, ob_alloc _ _ _ (by simp <;> omega), ob_alloc _ _ _ (by simp <;> omega), ob_newAt _ _ _ (by simp <;> omega)]
  clear ht1 q1
  go_wp2_with fail
  refine (wpIn_wide (n := 9)).1 ?_
  refine wpIn_range_empty rfl (by decide) (gf := 36) (lb := #[.pointer (some ⟨z1.heap.size, 0, none⟩), .pointer (some ⟨z1.heap.size + 1, 0, none⟩), .pointer (some ⟨z1.heap.size + 2, 0, none⟩), .pointer (some ⟨z1.heap.size + 3, 0, none⟩)]) rfl trivial (Go.Proofs.enters_of Try.func36 (by kernel_rfl) rfl)
    (page1E_stops (fun _ _ => False) 8 z1.heap.size (z1.heap.size + 1) (z1.heap.size + 2) (z1.heap.size + 3) id t1 (hE1w.fr hft1) ox1 oi1) (fun _ => rfl) ?_
  intro D1 u1 hD1 hB1 hK1
  have hfu1 : Fr (fun _ => False) u0 u1 := (hfz1.step hft1 (fun _ h => h.elim)).step hB1 (fun _ h => h.elim)
  have oa2 := hfu1.keep (fun h => h) oa1
  have oc2 := hfu1.keep (fun h => h) oc1
  have oz2 := hfu1.keep (fun h => h) oz1
  have hD1s : u0.heap.size ≤ D1 := by have := hfz1.size; have := hft1.size; omega
  clear hB1 ox1 oi1 s1
  go_wp2_with fail
  rw [rounds_succ]
  go_wp2_with fail
  refine (lives_any u1).mono ?_
  rintro e w9 ⟨rfl, hf9⟩
  have o9 := hf9.keep (fun h => h) oc2
  have c9 := cell_of_ob o9 0
  have z9 := frozen_of_ob o9 0
  have s9 := ob_lt o9
  have k0 := hf9.keep (fun h => h) (hfu1.keep (fun h => h) hK0)
  have k1 := hf9.keep (fun h => h) hK1
  have sW := ob_lt oc0
  have sU := ob_lt hK0
  have sV := hfu0.size
  have hfin : Fr (fun _ => False) w (w9.setCell ⟨ba + 1, 0, none⟩ (.bool true)) := (((hfr.step hfu0 (fun _ h => h.elim)).step hfu1 (fun _ h => h.elim)).step hf9 (fun _ h => h.elim)).setCell _ _ (.inr (by have := HBA.out; simp; omega))
  have hob : ob (w9.setCell ⟨ba + 1, 0, none⟩ (.bool true)) (ba + 1) = some (.cells #[.bool true] 4 (0, 0)) := ob_setCell_same o9 _
  have k0' : ob (w9.setCell ⟨ba + 1, 0, none⟩ (.bool true)) D0 = some (.deferred (some [])) := (ob_setCell _ _ _ _ (by simp; omega)).trans k0
  have k1' : ob (w9.setCell ⟨ba + 1, 0, none⟩ (.bool true)) D1 = some (.deferred (some [])) := (ob_setCell _ _ _ _ (by simp; omega)).trans k1
  clear hE0 hE1 hfz0 hfz1 hft0 hft1 oa0 oa1 oa2 oz0 oz1 oz2 oc0 oc1 oc2 hf9 k0 k1 heq
  go_wp2_with fail
  change LeavesInM _ _ _ _ _ _ (marks [D1, D0]) _ _
  refine leaves_marks (B := ba) [D1, D0] _ (by simp; omega) (fun D hD => ?_) (by simp; omega) (fun w' hw' hc => ?_)
  · simp only [List.mem_cons, List.not_mem_nil, or_false] at hD
    rcases hD with rfl | rfl
    · exact ⟨k1', by omega⟩
    · exact ⟨k0', by omega⟩
  · have hc2 := cell_of_ob (hc _ _ _ _ hob) 0
    refine ⟨.bool true, ?_, rfl, ⟨hw'.os.trans hfin.os, hw'.tape.trans hfin.tape, hw'.output.trans hfin.output, Nat.le_trans hfin.size hw'.size, fun k hk hn => (hw'.block k (by have := HBA.out; omega)).trans (hfin.block k hk hn)⟩⟩
    simp at hc2
    simp [results, Try.f7, go_sem, hc2]
end Go.Proofs.Ytopfknikmhkaeaa
