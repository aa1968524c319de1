/- AnonPlaces returns true: the walk. No conditions. -/
import Derived.Test.YtalinhpdibdlkaaAnPool
namespace Go.Proofs.Ytalinhpdibdlkaa
open Go.RowKit
set_option linter.unusedSimpArgs false
set_option linter.unusedVariables false
def neAnon (a b c x y z : Int) : Sem Value := binOp .neq 32 (.agg #[.int .i64 a, .int .i64 b, .int .i64 c]) (.agg #[.int .i64 x, .int .i64 y, .int .i64 z])
@[go_sem high] theorem to_neAnon (a b c x y z : Int) : binOp .neq 32 (.agg #[.int .i64 a, .int .i64 b, .int .i64 c]) (.agg #[.int .i64 x, .int .i64 y, .int .i64 z]) = neAnon a b c x y z := rfl
@[go_sem] theorem run_neAnon (a b c x y z : Int) (w : World) : (neAnon a b c x y z).run Try.prog w = .ok (.bool (!(a3eq a b c x y z))) w := by
  change Sem.run Try.prog (Op.equalIn 10000 32 _ _ >>= _) w = _
  rw [Sem.run_bind, eqin_anon]
  rfl
theorem a3eq_self (a b c : Int) : a3eq a b c a b c = true := by simp [a3eq]
theorem places_ref {N : Nat} (hN : N < 1000) {f s : Int} {y : A3} {er : Int} {free' : List Int} {l' : List (Int × A3)} (hc : ChOut (refRes N) [] [(1, (1, f, -1)), (2, (1, s, -1))] 1 y er free' l') :
    y = ((N : Int) + 1, f, -1) ∧ er = 0 ∧ free' = [] ∧ l' = [(1, ((N : Int) + 1, f, -1)), (2, (1, s, -1))] := by
  have hr : refRes N (1, f, -1) = (0, ((N : Int) + 1, f, -1)) := by
    unfold refRes; rw [if_neg (by simp; omega)]; simp; omega
  simp only [ChOut, alGet, if_true, hr] at hc
  obtain ⟨h1, h2, h3⟩ := hc
  rw [if_neg (by omega)] at h3
  exact ⟨h1, h2, h3.1, by rw [h3.2]; simp [alSet]⟩
theorem places_put {n f s : Int} (hn : n ≠ 0) {y : A3} {er : Int} {free' : List Int} {l' : List (Int × A3)} (hc : ChOut (putRes s f) [] [(1, (n, f, -1)), (2, (1, s, -1))] 1 y er free' l') :
    er = 0 ∧ free' = [] ∧ l' = [(1, (n, s, f)), (2, (1, s, -1))] := by
  unfold ChOut at hc
  rw [show alGet [((1 : Int), ((n, f, -1) : A3)), (2, (1, s, -1))] 1 = some (n, f, -1) from rfl] at hc
  dsimp only at hc
  rw [if_neg (show ¬ ((putRes s f (n, f, -1)).1 ≠ 0) from fun h => h rfl), if_neg (show ¬ ((putRes s f (n, f, -1)).2.1 = 0) from hn)] at hc
  obtain ⟨h1, h2, h3, h4⟩ := hc
  exact ⟨h2, h3, by rw [h4]; simp [alSet, putRes]⟩
theorem places_drop {N : Nat} {f s : Int} {y : A3} {er : Int} {free' : List Int} {l' : List (Int × A3)} (hc : ChOut (refRes (-(N : Int) - 1)) [] [(1, ((N : Int) + 1, s, f)), (2, (1, s, -1))] 1 y er free' l') :
    y = (0, s, f) ∧ er = 0 ∧ free' = [1] ∧ l' = [(2, (1, s, -1))] := by
  have hr : refRes (-(N : Int) - 1) ((N : Int) + 1, s, f) = (0, (0, s, f)) := by
    unfold refRes; rw [if_neg (by simp; omega)]; simp; omega
  unfold ChOut at hc
  rw [show alGet [((1 : Int), (((N : Int) + 1, s, f) : A3)), (2, (1, s, -1))] 1 = some ((N : Int) + 1, s, f) from rfl] at hc
  dsimp only at hc
  rw [hr, if_neg (by simp), if_pos rfl] at hc
  obtain ⟨h1, h2, h3, h4⟩ := hc
  exact ⟨h1, h2, List.perm_singleton.1 (by simpa using h3), by rw [h4]; simp [alSet, alDel]⟩
set_option maxRecDepth 100000 in
set_option maxHeartbeats 4000000 in
theorem places_walk (W : World) (frame slot refs : Int) (hr0 : 0 ≤ refs) (hr1 : refs ≤ 18446744073709551615) :
    Calls Try.prog 6 #[.int .i64 frame, .int .i64 slot, .int .u64 refs] W fun e w' => e = .returned (.bool true) ∧ Fr (fun _ => False) W w' := by
  obtain ⟨N, hN, hN1⟩ : ∃ N : Nat, refs % 1000 = N ∧ N < 1000 := ⟨(refs % 1000).toNat, by omega, by omega⟩
  go_enter Try.func6, Try.ntmps6
  go_wp2_with fail
  refine (new_any 4 (by omega) (by omega) W).mono ?_
  rintro e w1 ⟨b, m, rfl, hX1, -, -, -⟩
  go_wp2_with fail
  refine (make_any hX1 (by simp) (by simp) (by omega) frame).mono ?_
  rintro e w2 ⟨id, rfl, last', free', hM, hX2⟩
  obtain ⟨rfl, rfl, rfl⟩ := hM.fresh
  have e1 : alSet ([] : List (Int × A3)) ((0 : Int) + 1) (1, frame, -1) = [(1, (1, frame, -1))] := rfl
  rw [e1] at hX2
  clear hX1 hM e1
  go_wp2_with fail
  refine (make_any hX2 (by simp) (by simp) (by omega) slot).mono ?_
  rintro e w3 ⟨id, rfl, last', free', hM, hX3⟩
  obtain ⟨rfl, rfl, rfl⟩ := hM.fresh
  have e1 : alSet [((1 : Int), ((1 : Int), (frame, (-1 : Int))))] ((0 : Int) + 1 + 1) (1, slot, -1) = [(1, (1, frame, -1)), (2, (1, slot, -1))] := rfl
  rw [e1] at hX3
  clear hX2 hM e1
  have hrf := ref_any (id' := 1) hX3 (by simp) (fun a hg => by cases hg; simp) (N : Int)
  go_wp2_with fail
  try simp only [hN]
  clear hN
  refine hrf.mono ?_
  rintro e w4 ⟨y, er, rfl, free', l', hc, hX4⟩
  clear hrf
  obtain ⟨rfl, rfl, rfl, rfl⟩ := places_ref hN1 hc
  clear hc hX3
  have hX5 := hX4.keep ((Fr.refl _ w4).alloc (.cells #[.int .i64 ((N : Int) + 1), .int .i64 frame, .int .i64 (-1)] 32))
  have hpt := put_any (id' := 1) hX5 (by simp) slot frame
  have hself := a3eq_self ((N : Int) + 1) frame (-1)
  simp only [a3]
  clear hX4
  go_wp2_with fail
  refine hpt.mono ?_
  rintro e w6 ⟨z, er, rfl, free', l', hc, hX6⟩
  clear hpt hself
  obtain ⟨rfl, rfl, rfl⟩ := places_put (by omega) hc
  clear hc hX5
  have hg1 : Calls Try.prog 13 #[.pointer (some ⟨b, 0, none⟩), .int .i64 1] w6 fun e w' => e = .returned (.tuple #[.agg #[.int .i64 ((N : Int) + 1), .int .i64 slot, .int .i64 frame], .bool true]) ∧ Fr (fun _ => False) w6 w' := get_any (id' := 1) hX6
  go_wp2_with fail
  refine hg1.mono ?_
  rintro e w7 ⟨rfl, hf7⟩
  clear hg1
  have hX7 := hX6.keep hf7
  obtain ⟨w8, hw8⟩ : ∃ w8, w7.alloc (.cells #[.int .i64 ((N : Int) + 1), .int .i64 slot, .int .i64 frame] 32) = w8 := ⟨_, rfl⟩
  obtain ⟨by_, hby⟩ : ∃ k, w7.heap.size = k := ⟨_, rfl⟩
  have hf8 : Fr (fun _ => False) w7 w8 := by rw [← hw8]; exact (Fr.refl _ _).alloc _
  have oy : ob w8 by_ = some (.cells #[.int .i64 ((N : Int) + 1), .int .i64 slot, .int .i64 frame] 32 (0, 0)) := by rw [← hw8, ← hby]; exact ob_new _ _
  have hX8 := hX7.keep hf8
  have hg2 : Calls Try.prog 13 #[.pointer (some ⟨b, 0, none⟩), .int .i64 2] w8 fun e w' => e = .returned (.tuple #[.agg #[.int .i64 1, .int .i64 slot, .int .i64 (-1)], .bool true]) ∧ Fr (fun _ => False) w8 w' := get_any (id' := 2) hX8
  go_wp2_with fail
  try rw [hw8, hby]
  refine hg2.mono ?_
  rintro e w9 ⟨rfl, hf9⟩
  clear hg2
  have hX9 := hX8.keep hf9
  have oy9 := hf9.keep (fun h => h) oy
  obtain ⟨wa, hwa⟩ : ∃ wa, w9.alloc (.cells #[.int .i64 1, .int .i64 slot, .int .i64 (-1)] 32) = wa := ⟨_, rfl⟩
  obtain ⟨bz, hbz⟩ : ∃ k, w9.heap.size = k := ⟨_, rfl⟩
  have hfa : Fr (fun _ => False) w9 wa := by rw [← hwa]; exact (Fr.refl _ _).alloc _
  have oz : ob wa bz = some (.cells #[.int .i64 1, .int .i64 slot, .int .i64 (-1)] 32 (0, 0)) := by rw [← hwa, ← hbz]; exact ob_new _ _
  have oya := hfa.keep (fun h => h) oy9
  have hf7a : Fr (fun _ => False) w7 wa := ((hf8.step hf9 (fun _ h => h.elim)).step hfa (fun _ h => h.elim))
  have hs78 : by_ < w9.heap.size := ob_lt oy9
  have hXa := hX7.enter hf7a (fun k => k = by_ ∨ k = bz) (fun k hk => by
    have h1 := ob_lt oz; have h2 := ob_lt oya; have h3 := hf7a.size
    rcases hk with rfl | rfl
    · omega
    · have := hf8.size; have := hf9.size; omega)
  have hrf := ref_any (id' := 1) hXa (by simp) (fun a hg => by cases hg; simp; omega) (-(N : Int) - 1)
  clear hX8 hX9 oy oy9 hw8 hf8 hf9 hby
  go_wp2_with fail
  try rw [hwa, hbz]
  refine hrf.mono ?_
  rintro e wb ⟨y, er, rfl, free', l', hc, hXb⟩
  clear hrf
  obtain ⟨rfl, rfl, rfl, rfl⟩ := places_drop hc
  have oyb := hXb.safe (.inl rfl) oya
  have ozb := hXb.safe (.inr rfl) oz
  have hXb2 := hX7.leave hf7a hXb
  clear hc hXa hXb oya oz hwa hbz hfa hs78 hf7a hX7 hX6 hf7
  simp only [a3]
  obtain ⟨wc, hwc⟩ : ∃ wc, wb.alloc (.cells #[.int .i64 0, .int .i64 slot, .int .i64 frame] 32) = wc := ⟨_, rfl⟩
  obtain ⟨bw, hbw⟩ : ∃ k, wb.heap.size = k := ⟨_, rfl⟩
  have hfc : Fr (fun _ => False) wb wc := by rw [← hwc]; exact (Fr.refl _ _).alloc _
  have ow : ob wc bw = some (.cells #[.int .i64 0, .int .i64 slot, .int .i64 frame] 32 (0, 0)) := by rw [← hwc, ← hbw]; exact ob_new _ _
  have hXc := hXb2.keep hfc
  have hg3 : Calls Try.prog 13 #[.pointer (some ⟨b, 0, none⟩), .int .i64 1] wc fun e w' => e = .returned (.tuple #[.agg #[.int .i64 0, .int .i64 0, .int .i64 0], .bool false]) ∧ Fr (fun _ => False) wc w' := get_any (id' := 1) hXc
  go_wp2_with fail
  try rw [hwc, hbw]
  refine hg3.mono ?_
  rintro e wd ⟨rfl, hfd⟩
  clear hg3
  have hfce : Fr (fun _ => False) wb (wd.alloc (.cells #[.int .i64 0, .int .i64 0, .int .i64 0] 32)) := (hfc.step hfd (fun _ h => h.elim)).alloc _
  go_upto_region 14 with fail
  obtain ⟨we, hwe⟩ : ∃ we, wd.alloc (.cells #[.int .i64 0, .int .i64 0, .int .i64 0] 32) = we := ⟨_, rfl⟩
  rw [hwe] at hfce ⊢
  have hXe := hXb2.keep hfce
  have oye := hfce.keep (fun h => h) oyb
  have oze := hfce.keep (fun h => h) ozb
  have owe : ob we bw = some (.cells #[.int .i64 0, .int .i64 slot, .int .i64 frame] 32 (0, 0)) := by rw [← hwe]; exact ((Fr.refl (fun _ => False) wd).alloc _).keep (fun h => h) (hfd.keep (fun h => h) ow)
  have hsum := sum_any hXe ⟨by simp, fun k hk => by simp at hk; subst hk; rfl, by simp⟩ (fun k a hg => by
    simp only [alGet] at hg
    split at hg
    · cases hg; simp
    · cases hg)
  have hs1 : allR [((2 : Int), ((1 : Int), (slot, (-1 : Int))))] = 1 := rfl
  rw [hs1] at hsum
  have y0 := cell_of_ob oye 0
  have y1 := cell_of_ob oye 1
  have y2 := cell_of_ob oye 2
  have z0 := cell_of_ob oze 0
  have z1 := cell_of_ob oze 1
  have z2 := cell_of_ob oze 2
  have x0 := cell_of_ob owe 0
  have x1 := cell_of_ob owe 1
  have x2 := cell_of_ob owe 2
  have q1 := a3eq_self ((N : Int) + 1) slot frame
  have q2 := a3eq_self 1 slot (-1)
  have q3 := a3eq_self 0 slot frame
  clear hXc hXb2 oyb ozb ow hwc hbw hfc hfd hs1 hfce
  go_wp2_with fail
  refine hsum.mono ?_
  rintro e wf ⟨rfl, hff⟩
  have hXf := hXe.keep hff
  go_wp2_with fail
  refine (lives_any _).mono ?_
  rintro e wg ⟨rfl, hfg⟩
  have hfin := hXf.fr.step hfg (fun _ h => h.elim)
  go_wp2
  go_ret
  exact ⟨rfl, hfin.mono (S2 := fun _ => False) (fun k hk h => h hk)⟩
end Go.Proofs.Ytalinhpdibdlkaa
