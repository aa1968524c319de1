/- anon.Pool: Ref, Get. Conditions: bounds on lengths; references between 0 and 1000000. -/
import Derived.Test.YtalinhpdibdlkaaAnD
namespace Go.Proofs.Ytalinhpdibdlkaa
open Go.RowKit
set_option linter.unusedSimpArgs false
set_option linter.unusedVariables false
theorem cfRef (args : Array Value) (W : World) : (callFunc 29 args).run Try.prog W = .ok (.enter 29 args) W := by kernel_rfl
/-- What holding so often more makes of an anon. -/
def refRes (by' : Int) (a : A3) : Int × A3 := if by' < -a.1 ∨ 1000000 - a.1 < by' then (2, a) else (0, (a.1 + by', a.2))
set_option maxRecDepth 100000 in
set_option maxHeartbeats 2000000 in
theorem refFn_any (W : World) (a : A3) (ba q : Nat) (x : Int) (ha0 : 0 ≤ a.1) (ha1 : a.1 ≤ 1000000) (hoa : ob W ba = some (.cells #[.int .i64 a.1, .int .i64 a.2.1, .int .i64 a.2.2] 32 (0, 0))) (hq : W.cell? ⟨q, 0, none⟩ = some (.int .i64 x)) (hql : q < W.heap.size) (hqb : q ≠ ba) :
    Calls Try.prog 29 (#[.pointer (some ⟨ba, 0, none⟩)] ++ #[.pointer (some ⟨q, 0, none⟩)]) W fun e W' => e = .returned (.int .i64 (refRes x a).1) ∧ ob W' ba = some (.cells #[.int .i64 (refRes x a).2.1, .int .i64 (refRes x a).2.2.1, .int .i64 (refRes x a).2.2.2] 32 (0, 0)) ∧ Fr (fun k => k = ba) W W' := by
  obtain ⟨r, f, s⟩ := a
  dsimp only at ha0 ha1 hoa
  have c0 : W.cell? ⟨ba, 0, none⟩ = some (.int .i64 r) := cell_of_ob hoa 0
  have f0 : W.frozen? ⟨ba, 0, none⟩ = false := frozen_of_ob hoa 0
  have hbl := ob_lt hoa
  by_cases h1 : x < -r
  · have hres : refRes x (r, f, s) = (2, (r, f, s)) := by unfold refRes; rw [if_pos (.inl h1)]
    rw [hres]
    clear hres
    go_enter Try.func29, Try.ntmps29
    go_wp2
    refine wp_region_canon [1, 2, 3, 0, 4, 5, 6, 7, 9, 10, 11, 8, 12, 13, 14, 15] (by kernel_rfl) (by kernel_rfl) (fun K hK => ?_)
    simp only [List.map_cons, List.map_nil, List.getD_cons_succ, List.getD_cons_zero]
    go_wp2
    refine hK _ _ (by kernel_rfl) ?_
    clear hK K
    go_wp2
    go_ret
    exact ⟨rfl, hoa, (Fr.refl _ _).drew⟩
  · by_cases h2 : 1000000 - r < x
    · have hres : refRes x (r, f, s) = (2, (r, f, s)) := by unfold refRes; rw [if_pos (.inr h2)]
      rw [hres]
      clear hres
      have hb1 : decide (x < -r) = false := by simp; omega
      go_enter Try.func29, Try.ntmps29
      go_wp2
      refine wp_region_canon [1, 2, 3, 0, 4, 5, 6, 7, 9, 10, 11, 8, 12, 13, 14, 15] (by kernel_rfl) (by kernel_rfl) (fun K hK => ?_)
      simp only [List.map_cons, List.map_nil, List.getD_cons_succ, List.getD_cons_zero]
      go_wp2
      refine hK _ _ (by kernel_rfl) ?_
      clear hK K
      go_wp2
      go_ret
      exact ⟨rfl, hoa, (Fr.refl _ _).drew⟩
    · have hres : refRes x (r, f, s) = (0, (r + x, f, s)) := by unfold refRes; rw [if_neg (by simp only; omega)]
      rw [hres]
      clear hres
      have hb1 : decide (x < -r) = false := by simp; omega
      have hb2 : decide (1000000 - r < x) = false := by simp; omega
      go_enter Try.func29, Try.ntmps29
      go_wp2
      refine wp_region_canon [1, 2, 3, 0, 4, 5, 6, 7, 9, 10, 11, 8, 12, 13, 14, 15] (by kernel_rfl) (by kernel_rfl) (fun K hK => ?_)
      simp only [List.map_cons, List.map_nil, List.getD_cons_succ, List.getD_cons_zero]
      go_wp2
      refine hK _ _ (by kernel_rfl) ?_
      clear hK K
      go_wp2
      refine wp_region_canon [0, 1, 2, 3, 4, 5, 6, 7, 8] (by kernel_rfl) (by kernel_rfl) (fun K hK => ?_)
      simp only [List.map_cons, List.map_nil, List.getD_cons_succ, List.getD_cons_zero]
      go_wp2
      refine hK _ _ (by kernel_rfl) ?_
      clear hK K
      go_wp2
      go_ret
      exact ⟨rfl, ob_setCell_same hoa _, ((Fr.refl (fun k => k = ba) _).setCell ⟨ba, 0, none⟩ _ (.inl rfl)).drew.drew⟩
section
variable {Pr : Nat → Prop} {W1 w w1 : World} {b m : Nat} {most last : Int} {free : List Int} {l : List (Int × A3)} {id' : Int}
theorem PoolX.leaveS {w2 w3 : World} {L : Nat → Prop} {most' last' : Int} {free' : List Int} {l' : List (Int × A3)} (h : PoolX Pr W1 w b m most last free l) (hf : Fr (fun _ => False) w w1) (h2 : PoolX (fun k => Pr k ∨ L k) w1 w2 b m most' last' free' l') (hf2 : Fr L w2 w3) (hL : ∀ k, L k → ¬ Pr k) : PoolX Pr W1 w3 b m most' last' free' l' := by
  obtain ⟨fv, h1, h2', h3, h4⟩ := h
  obtain ⟨fv', g1, g2, g3, g4⟩ := h2
  exact ⟨fv', g1.fr hf2 (fun k hk hl => g2 k hk (.inr hl)), fun k hk hp => g2 k hk (.inl hp), ((h3.step hf (fun _ h => h.elim)).step g3 (fun k hk => .inl (fun hp => hk (.inl hp)))).step hf2 (fun k hk => .inl (hL k hk)), h4⟩
theorem ref_any (h : PoolX Pr W1 w b m most last free l) (hf : free.length ≤ 100000) (hr : ∀ a, alGet l id' = some a → 0 ≤ a.1 ∧ a.1 ≤ 1000000) (x : Int) :
    Calls Try.prog 12 #[.pointer (some ⟨b, 0, none⟩), .int .i64 id', .int .i64 x] w fun e w' =>
      ∃ y er, e = .returned (.tuple #[a3 y, .int .i64 er]) ∧ ∃ free' l', ChOut (refRes x) free l id' y er free' l' ∧ PoolX Pr W1 w' b m most last free' l' := by
  have hfw : Fr (fun _ => False) w ((w.alloc (.cells #[.int .i64 x] 3)).alloc (.cells #[.int .i64 0, .int .i64 0, .int .i64 0] 32)) := ((Fr.refl _ _).alloc _).alloc _
  have oq : ob ((w.alloc (.cells #[.int .i64 x] 3)).alloc (.cells #[.int .i64 0, .int .i64 0, .int .i64 0] 32)) w.heap.size = some (.cells #[.int .i64 x] 3 (0, 0)) := by
    rw [ob_alloc _ _ _ (by simp only [World.size_alloc]; omega), ob_new]
  go_enter Try.func12, Try.ntmps12
  go_wp2_with fail
  refine (change_any (h.enter hfw (fun k => k = w.heap.size + 1) (fun k hk => by simp; omega)) hf id' _ _ (refRes x) cfRef (fun W a ba hg hW hba hoa => ?_)).mono ?_
  · have oq2 := hW.keep (fun h => h) oq
    simp at hba
    exact refFn_any W a ba w.heap.size x (hr a hg).1 (hr a hg).2 hoa (cell_of_ob oq2 0) (ob_lt oq2) (by omega)
  rintro e w2 ⟨⟨y1, y2, y3⟩, er, rfl, free', l', hc, hX⟩
  have oz := hX.safe (k := w.heap.size + 1) rfl (ob_newAt _ _ _ (by simp))
  have g0 : w2.cell? ⟨w.heap.size + 1, 0, none⟩ = some (.int .i64 0) := cell_of_ob oz 0
  have g1 : w2.cell? ⟨w.heap.size + 1, 1, none⟩ = some (.int .i64 0) := cell_of_ob oz 1
  have g2 : w2.cell? ⟨w.heap.size + 1, 2, none⟩ = some (.int .i64 0) := cell_of_ob oz 2
  have gf0 := frozen_of_ob oz 0
  have gf1 := frozen_of_ob oz 1
  have gf2 := frozen_of_ob oz 2
  have so := ob_lt oz
  simp only [a3]
  go_wp2_with fail
  refine bodyPost_ret (v := .tuple #[a3 (y1, y2, y3), .int .i64 er]) (by simp [results, Try.results12, go_sem, a3, *]) rfl ⟨(y1, y2, y3), er, rfl, free', l', hc, ?_⟩
  refine h.leaveS hfw hX (((((Fr.refl (fun k => k = w.heap.size + 1) w2).setCell ⟨w.heap.size + 1, 0, none⟩ _ (.inl rfl))).setCell ⟨w.heap.size + 1, 1, none⟩ _ (.inl rfl)).setCell ⟨w.heap.size + 1, 2, none⟩ _ (.inl rfl)) (fun k hk hp => ?_)
  obtain ⟨_, _, _, h3, h4⟩ := h
  have := h4 k hp
  have := h3.size
  omega
theorem get_any (h : PoolX Pr W1 w b m most last free l) : Calls Try.prog 13 #[.pointer (some ⟨b, 0, none⟩), .int .i64 id'] w fun e w' =>
      e = .returned (.tuple #[a3 ((alGet l id').getD (0, 0, 0)), .bool (alGet l id').isSome]) ∧ Fr (fun _ => False) w w' := by
  obtain ⟨fv, hT, _⟩ := h
  have hb := hT.lt
  have hml := hT.mlt
  have hfr0 : Fr (fun _ => False) w (w.alloc (.cells #[.int .i64 0, .int .i64 0, .int .i64 0] 32)) := (Fr.refl _ _).alloc _
  have hT0 := hT.fr hfr0 (fun _ _ h => h)
  have c2 : w.cell? ⟨b, 2, none⟩ = some (.map (some m)) := cell_of_ob hT.blk 2
  obtain ⟨r, hr⟩ : ∃ r, r = (alGet l id').getD (0, 0, 0) := ⟨_, rfl⟩
  obtain ⟨ok, hok⟩ : ∃ ok, ok = (alGet l id').isSome := ⟨_, rfl⟩
  rw [← hr, ← hok]
  have Hr := Lib.hid hr
  have Hok := Lib.hid hok
  clear hr hok
  go_enter Try.func13, Try.ntmps13
  go_wp2_with fail
  refine (made_any hT0).mono ?_
  rintro e w1 ⟨rfl, rfl⟩
  go_wp2_with (at_lookup; go_must (refine wpList_look2 rfl _ _ _ rfl rfl id' rfl key_ik Try.underlying60 (0, 0, 0) zeroA3 (hT0.all.of rfl) r ok Hr.out.symm Hok.out.symm ?_; simp only [a3]))
  exact bodyPost_ret (v := .tuple #[a3 r, .bool ok]) (by simp [results, Try.results13, go_sem, a3]) rfl ⟨rfl, ((Fr.refl _ _).alloc _).alloc _⟩
end
end Go.Proofs.Ytalinhpdibdlkaa
