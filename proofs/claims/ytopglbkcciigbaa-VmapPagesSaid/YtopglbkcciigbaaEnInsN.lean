/- slices.Insert of several entries. Conditions: at most 1000 of each, in rows of their own. -/
import Derived.Test.YtopglbkcciigbaaEnIns
namespace Go.Proofs.Ytopglbkcciigbaa
open Go.RowKit
set_option linter.unusedSimpArgs false
set_option linter.unusedVariables false
set_option maxRecDepth 100000 in
set_option maxHeartbeats 4000000 in
theorem insN_end {w : World} {v : Value} {l : List Ent} (h : SE w v l) (hl : l.length ≤ 1000) (vb vo m vc : Nat) (ms : List Ent) (hv : SE w (.slice (some ⟨vb, vo, none⟩) m vc) ms) (hm : m = ms.length) (hm1 : 1 ≤ m) (hm2 : m ≤ 1000) :
    Calls Try.prog 45 #[v, .int .i64 l.length, .slice (some ⟨vb, vo, none⟩) m vc] w fun e w' => Inserted w v (l ++ ms) e w' := by
  have hN := h.elen
  have hN5 : sliceLen v ≤ 1000 := by omega
  obtain ⟨i0, hi, hz, hsz, hby⟩ := info_of zeroEnt
  have hy : Sl w 28 10 (.slice (some ⟨vb, vo, none⟩) m vc) (ms.flatMap ent) := hv
  have h1 : ∀ u ∈ ms.flatMap ent, u.oneCell' = true := one_ents ms
  obtain ⟨n, hn⟩ : ∃ n, n = l.length := ⟨_, rfl⟩
  rw [← hn] at hN hl ⊢
  have HN := Lib.hid hn
  clear hn
  have fin : ∀ v' W, Sl W 28 10 v' (l.flatMap ent ++ ms.flatMap ent) → Fr (fun k => v.ownBlock = some k) w W → (v'.ownBlock = v.ownBlock ∨ ∃ k, v'.ownBlock = some k ∧ w.heap.size ≤ k) → Inserted w v (l ++ ms) (.returned v') W := fun v' W h2 h3 h4 =>
    ⟨v', rfl, by simpa [SE] using h2, h3, fun k hk => by
      rcases h4 with h4 | ⟨q, h4, hq⟩
      · exact .inl (by rw [← h4]; exact hk)
      · rw [h4] at hk; cases hk; exact .inr hq⟩
  have FIN := Lib.hid fin
  clear fin
  go_enter Try.func45, Try.ntmps45
  rcases id h with ⟨rfl, hnil⟩ | ⟨g, off, n', cap, row, rfl, ho, hlen, hnc, hcm, hs, ht⟩
  · obtain rfl : n = 0 := by simpa [sliceLen] using hN.symm
    clear hN
    go_upto_region 7 with fail
    go_wp2_with (at_builtin; go_must (refine wpList_appsrc (y := .slice (some ⟨vb, vo, none⟩) m vc) (v := .slice none 0 0) rfl _ _ _ rfl Try.underlying31 hi hz hsz hby rfl (by decide) rfl h rfl hy h1 (by simp only [maxLen, sliceLen]; omega) (by simp only [sliceLen]; omega) ?_; intro v' W h2 h3 h4 h5))
    go_wp2
    go_ret
    exact FIN.out v' W h2 h3 h4
  · obtain rfl : n = n' := by simpa [sliceLen] using hN.symm
    clear hN ho hlen hs ht
    by_cases hcn : cap = n
    · subst hcn
      go_upto_region 7 with fail
      go_wp2_with (at_builtin; go_must (refine wpList_appsrc (y := .slice (some ⟨vb, vo, none⟩) m vc) (v := .slice (some ⟨g, off, none⟩) cap cap) rfl _ _ _ rfl Try.underlying31 hi hz hsz hby rfl (by decide) rfl h rfl hy h1 (by simp only [maxLen, sliceLen] at *; omega) (by simp only [sliceLen] at *; omega) ?_; intro v' W h2 h3 h4 h5))
      go_wp2
      go_ret
      exact FIN.out v' W h2 h3 h4
    · go_upto_region 7 with fail
      go_wp2_with (at_builtin; go_must (refine wpList_appsrc (y := .slice (some ⟨vb, vo, none⟩) m vc) (v := .slice (some ⟨g, off, none⟩) n cap) rfl _ _ _ rfl Try.underlying31 hi hz hsz hby rfl (by decide) rfl h rfl hy h1 (by simp only [maxLen, sliceLen] at *; omega) (by simp only [sliceLen] at *; omega) ?_; intro v' W h2 h3 h4 h5))
      go_wp2
      go_ret
      exact FIN.out v' W h2 h3 h4
set_option maxRecDepth 100000 in
set_option maxHeartbeats 4000000 in
/-- There is room: in place. -/
theorem insN_room {w : World} {l : List Ent} {g off n cap : Nat} {row : Array Value} (ho : ob w g = some (.cells row 28 (0, 0))) (hlen : l.length = n) (hcm : cap ≤ maxLen) (hs : off + cap * 10 ≤ row.size) (ht : (row.toList.drop off).take (n * 10) = l.flatMap ent)
    (hl : n ≤ 1000) (vb vo m vc : Nat) (ms : List Ent) (hv : SE w (.slice (some ⟨vb, vo, none⟩) m vc) ms) (hm : m = ms.length) (hm1 : 1 ≤ m) (hm2 : m ≤ 1000) (hne : vb ≠ g) (i : Nat) (hi : i < n) (hr : n + m ≤ cap) :
    Calls Try.prog 45 #[.slice (some ⟨g, off, none⟩) n cap, .int .i64 i, .slice (some ⟨vb, vo, none⟩) m vc] w fun e w' => Inserted w (.slice (some ⟨g, off, none⟩) n cap) (l.take i ++ ms ++ l.drop i) e w' := by
  obtain ⟨rowv, hx, hvs, hvt⟩ : ∃ rowv, ob w vb = some (.cells rowv 28 (0, 0)) ∧ vo + m * 10 ≤ rowv.size ∧ (rowv.toList.drop vo).take (m * 10) = ms.flatMap ent := by
    rcases hv with ⟨h0, _⟩ | ⟨g', off', n', cap', row', heq, ho', hl', hc', hm', hs', ht'⟩
    · cases h0
    · cases heq
      exact ⟨row', ho', by have := Nat.mul_le_mul_right 10 hc'; omega, ht'⟩
  have hml : (ms.flatMap ent).length = m * 10 := by rw [len_ents, hm]
  have hcv : ∀ W : World, ob W vb = some (.cells rowv 28 (0, 0)) → ∀ j u, (ms.flatMap ent)[j]? = some u → W.cell? ⟨vb, vo + j, none⟩ = some u := fun W hW j u hu => by
    rw [cell_of_ob hW]
    rw [← hvt, List.getElem?_take] at hu
    split at hu
    · simpa using hu
    · cases hu
  have hcl : (l.flatMap ent).length = n * 10 := by rw [len_ents, hlen]
  have hdl : ((l.flatMap ent).drop (i * 10)).length = (n - i) * 10 := by rw [List.length_drop, hcl, Nat.sub_mul]
  have hov : ∀ lb cb, (callFunc 51 #[.slice (some ⟨vb, vo, none⟩) m vc, .slice (some ⟨g, off + (i + m) * 10, none⟩) lb cb]).run Try.prog w = .ok (.value (.bool false)) w := fun lb cb => by
    rw [run_callFunc_extern Try.func51 (by kernel_rfl) (by kernel_rfl) (by kernel_rfl) (e := Extern.SlicesOverlaps.overlaps #[31, 31] #[4]) (by kernel_rfl),
      Lib.run_overlaps_apart w 31 4 28 Try.underlying31 10 Try.sizeOf28 ⟨vb, vo, none⟩ ⟨g, off + (i + m) * 10, none⟩ m vc lb cb hne 28 28 rowv.size row.size (shape_of_ob hx) (shape_of_ob ho) (by omega) (frozen_of_ob hx _) (frozen_of_ob hx _)]
    rfl
  have hcell : ∀ j u, (l.flatMap ent)[j]? = some u → w.cell? ⟨g, off + j, none⟩ = some u := fun j u hu => by
    rw [cell_of_ob ho]
    rw [← ht, List.getElem?_take] at hu
    split at hu
    · simpa using hu
    · cases hu
  have h1c := one_ents l
  have hsp : ∀ j, j < (n + m) * 10 → (w.cell? ⟨g, off + j, none⟩).isSome = true := fun j hj => by
    rw [cell_of_ob ho, Array.getElem?_eq_getElem (by omega)]; rfl
  have hcp1 : ∀ ty dl sl dc sc, Nat.min sl dl = n - i → (Builtin.copy_ #[31, 31] ty #[.slice (some ⟨g, off + (i + m) * 10, none⟩) dl dc, .slice (some ⟨g, off + i * 10, none⟩) sl sc]).run Try.prog w.drew = .ok (goInt (n - i : Nat)) (w.drew.setCells g (off + (i + m) * 10) ((l.flatMap ent).drop (i * 10))) := fun ty dl sl dc sc hm =>
    run_copy_sz w.drew _ _ ty 28 g _ dl dc _ sl sc _ Try.underlying31 sizeEnt (n - i) hm hdl
      (fun j u hj => by rw [Addr.add_lit, Nat.add_assoc]; exact hcell _ u (by rwa [List.getElem?_drop] at hj))
      (fun j hj => by rw [Nat.add_assoc]; exact hsp _ (by rw [hdl] at hj; omega)) (fun j hj => frozen_of_ob ho _) (fun u hu => h1c u (List.mem_of_mem_drop hu))
  obtain ⟨W1, hW1⟩ : ∃ W1, W1 = w.drew.setCells g (off + (i + m) * 10) ((l.flatMap ent).drop (i * 10)) := ⟨_, rfl⟩
  have ho1 : ob W1 g = some (.cells (rowPut row (off + (i + m) * 10) ((l.flatMap ent).drop (i * 10))) 28 (0, 0)) := by rw [hW1]; exact ob_setCells _ _ w.drew _ ho
  have hx1 : ob W1 vb = some (.cells rowv 28 (0, 0)) := by rw [hW1]; exact (fr_setCells _ _ w.drew).keep hne hx
  have hz1 : (rowPut row (off + (i + m) * 10) ((l.flatMap ent).drop (i * 10))).size = row.size := rowPut_size _ _ _ (by rw [hdl]; omega)
  have hf1 : Fr (fun k => k = g) w W1 := by rw [hW1]; exact (Fr.refl _ w).drew.step (fr_setCells _ _ w.drew) (fun k hk => .inl hk)
  have hcp2 : ∀ ty dl dc, m ≤ dl → (Builtin.copy_ #[31, 31] ty #[.slice (some ⟨g, off + i * 10, none⟩) dl dc, .slice (some ⟨vb, vo, none⟩) m vc]).run Try.prog W1 = .ok (goInt m) (W1.setCells g (off + i * 10) (ms.flatMap ent)) := fun ty dl dc hd =>
    run_copy_sz W1 _ _ ty 28 g _ dl dc _ m vc (ms.flatMap ent) Try.underlying31 sizeEnt m (by simp only [Nat.min_def]; split <;> omega) hml
      (fun j u hj => by rw [Addr.add_lit]; exact hcv _ hx1 j u hj)
      (fun j hj => by rw [cell_of_ob ho1, Array.getElem?_eq_getElem (by rw [hz1]; rw [hml] at hj; omega)]; rfl) (fun j hj => frozen_of_ob ho1 _) (one_ents ms)
  have fin : Inserted w (.slice (some ⟨g, off, none⟩) n cap) (l.take i ++ ms ++ l.drop i) (.returned (.slice (some ⟨g, off, none⟩) (n + m) cap)) (W1.setCells g (off + i * 10) (ms.flatMap ent)) := by
    refine ⟨_, rfl, .inr ⟨g, off, n + m, cap, _, rfl, ob_setCells _ _ W1 _ ho1, ?_, hr, hcm, ?_, ?_⟩, (hf1.step (fr_setCells _ _ W1) (fun k hk => .inl hk)).mono' (fun k hk => by rw [hk]; rfl), fun k hk => .inl hk⟩
    · rw [len_ents]; simp; omega
    · rw [rowPut_size _ _ _ (by rw [hz1, hml]; omega), hz1]; exact hs
    · have := shift_row (row := row) (cs := l.flatMap ent) (vs := (ms.flatMap ent)) (off := off) (p := i * 10) (by rw [hcl]; omega) (by rw [hcl, hml]; omega) (by rw [hcl]; exact ht)
      rw [hcl] at this
      have e1 : i * 10 + (ms.flatMap ent).length = (i + m) * 10 := by rw [hml]; omega
      have e2 : n * 10 + (ms.flatMap ent).length = (n + m) * 10 := by rw [hml]; omega
      rw [e1, e2] at this
      rw [this, flat_take, flat_drop]
      simp
  have FIN := Lib.hid fin
  have hin : ¬ ((i : Int) = (n : Int)) := by omega
  have hi1 : i ≤ n := by omega
  have hc1 : ¬ (cap = i) := by omega
  have hc2 : ¬ (cap = i + m) ∨ cap = i + m := by omega
  have hw1 : IntKind.i64.wrap ((i : Int) + (m : Int)) = (i : Int) + (m : Int) := by rw [IntKind.wrap_i64]; omega
  have htn : ((i : Int) + (m : Int)).toNat = i + m := by omega
  have hb1 : (0 : Int) ≤ (i : Int) + (m : Int) := by omega
  have hb3 : (i : Int) ≤ (n : Int) + (m : Int) := by omega
  have hcapi : (cap : Int) ≤ 9223372036854775807 := by simp only [maxLen] at hcm; omega
  have hci : ¬ (cap = i + m) := by omega
  clear fin hcell hsp hx1 hz1 h1c hdl hcl ho1 hf1 hs ht ho hx hc2 hcm hml hcv hvs hvt hm hv
  go_enter Try.func45, Try.ntmps45
  go_wp2_with (simp only [hov])
  refine wp_region_canon [0, 1, 2, 3, 4, 5, 6, 7, 8] (by kernel_rfl) (by kernel_rfl) (fun K hK => ?_)
  simp only [List.map_cons, List.map_nil, List.getD_cons_succ, List.getD_cons_zero]
  have hcp1b := fun ty dc sc => hcp1 ty (n + m - (i + m)) (n + m - i) dc sc (by simp only [Nat.min_def]; split <;> omega)
  rw [← hW1] at hcp1b
  go_wp2
  refine hK _ _ (by kernel_rfl) ?_
  clear hK K
  clear hov hcp1 hcp1b
  subst hW1
  have hcp2b := fun ty dc => hcp2 ty (n + m - i) dc (by omega)
  clear hcp2
  go_wp2
  go_ret
  exact FIN.out
set_option maxRecDepth 100000 in
set_option maxHeartbeats 4000000 in
/-- There is no room: a new row. -/
theorem insN_grow {w : World} {l : List Ent} {g off n cap : Nat} {row : Array Value} (ho : ob w g = some (.cells row 28 (0, 0))) (hlen : l.length = n) (hnc : n ≤ cap) (ht : (row.toList.drop off).take (n * 10) = l.flatMap ent)
    (hl : n ≤ 1000) (vb vo m vc : Nat) (ms : List Ent) (hv : SE w (.slice (some ⟨vb, vo, none⟩) m vc) ms) (hm : m = ms.length) (hm1 : 1 ≤ m) (hm2 : m ≤ 1000) (i : Nat) (hi : i < n) (hr : cap < n + m) :
    Calls Try.prog 45 #[.slice (some ⟨g, off, none⟩) n cap, .int .i64 i, .slice (some ⟨vb, vo, none⟩) m vc] w fun e w' => Inserted w (.slice (some ⟨g, off, none⟩) n cap) (l.take i ++ ms ++ l.drop i) e w' := by
  obtain ⟨rowv, hx, hvs, hvt⟩ : ∃ rowv, ob w vb = some (.cells rowv 28 (0, 0)) ∧ vo + m * 10 ≤ rowv.size ∧ (rowv.toList.drop vo).take (m * 10) = ms.flatMap ent := by
    rcases hv with ⟨h0, _⟩ | ⟨g', off', n', cap', row', heq, ho', hl', hc', hm', hs', ht'⟩
    · cases h0
    · cases heq
      exact ⟨row', ho', by have := Nat.mul_le_mul_right 10 hc'; omega, ht'⟩
  have hml : (ms.flatMap ent).length = m * 10 := by rw [len_ents, hm]
  have hcv : ∀ W : World, ob W vb = some (.cells rowv 28 (0, 0)) → ∀ j u, (ms.flatMap ent)[j]? = some u → W.cell? ⟨vb, vo + j, none⟩ = some u := fun W hW j u hu => by
    rw [cell_of_ob hW]
    rw [← hvt, List.getElem?_take] at hu
    split at hu
    · simpa using hu
    · cases hu
  obtain ⟨i0, hi0, hz0, hzs, hzb⟩ := info_of zeroEnt
  have hcl : (l.flatMap ent).length = n * 10 := by rw [len_ents, hlen]
  have hdl : ((l.flatMap ent).drop (i * 10)).length = (n - i) * 10 := by rw [List.length_drop, hcl, Nat.sub_mul]
  have htl : ((l.flatMap ent).take (i * 10)).length = i * 10 := by rw [List.length_take, hcl]; omega
  have hcell : ∀ j u, (l.flatMap ent)[j]? = some u → w.cell? ⟨g, off + j, none⟩ = some u := fun j u hu => by
    rw [cell_of_ob ho]
    rw [← ht, List.getElem?_take] at hu
    split at hu
    · simpa using hu
    · cases hu
  have h1c := one_ents l
  have hgw := ob_lt ho
  have hvw := ob_lt hx
  have hkk : (n : Int) + (m : Int) - (i : Int) = ((n + m - i : Nat) : Int) := by omega
  have hik : i + (n + m - i) = n + m := by omega
  have hold : (Builtin.firstCells i0.size i (.slice (some ⟨g, off, none⟩) i cap)).run Try.prog w.drew = .ok ((l.flatMap ent).take (i * 10)).toArray w.drew := by
    rw [hzs]
    exact run_firstCells_some w.drew 10 i ⟨g, off, none⟩ i cap _ htl (fun j u hj => by
      rw [Addr.add_lit]
      rw [List.getElem?_take] at hj
      split at hj
      · exact hcell j u hj
      · cases hj)
  obtain ⟨G, hG⟩ : ∃ G, G = grownCap w (n + m) cap 28 := ⟨_, rfl⟩
  have hGn : n + m ≤ G := by rw [hG]; exact grownCap_ge w _ _ _
  have hG63 : G ≤ maxLen := by rw [hG]; exact grownCap_le_maxLen w (n + m) cap _ (by unfold maxLen; omega)
  obtain ⟨row2, hrow2⟩ : ∃ row2 : Array Value, row2 = ((l.flatMap ent).take (i * 10)).toArray ++ Builtin.zeroCells (Value.agg #[.int .i64 0, .int .i64 0, .int .i64 0, .int .i64 0, .bool false, .int .i64 0, .int .i64 0, .int .i64 0, .int .i64 0, .bool false]).cells (n + m - i) ++ Builtin.zeroCells (Value.agg #[.int .i64 0, .int .i64 0, .int .i64 0, .int .i64 0, .bool false, .int .i64 0, .int .i64 0, .int .i64 0, .int .i64 0, .bool false]).cells (G - (n + m)) := ⟨_, rfl⟩
  have hrz : ∀ ty, (Builtin.append_ #[31, 3] ty #[.slice (some ⟨g, off, none⟩) i cap, .int .i64 ((n : Int) + (m : Int) - (i : Int))]).run Try.prog w = .ok (.slice (some ⟨w.heap.size, 0, none⟩) (n + m) G) (w.drew.alloc (.cells row2 28)) := fun ty => by
    have h := Lib.run_append_grow_zeros w 31 3 ty 28 i0 _ .i64 .i64 Try.underlying31 Try.underlying3 hi0 hz0 (some ⟨g, off, none⟩) i cap ((l.flatMap ent).take (i * 10)) hold (n + m - i) (by omega) (by rw [hzs]; omega) (by omega) (by omega) (by rw [hzb]; omega) (by rw [hzb, hik]; exact growslice_fits hr (by omega))
    rw [hik, ← hG, ← hrow2] at h
    rw [hkk]
    exact h
  have zc : ∀ k, (Builtin.zeroCells (Value.agg #[.int .i64 0, .int .i64 0, .int .i64 0, .int .i64 0, .bool false, .int .i64 0, .int .i64 0, .int .i64 0, .int .i64 0, .bool false]).cells k).size = k * 10 := fun k => by
    simp [Builtin.zeroCells, Value.cells]
    first | done | omega
  have hsz2 : row2.size = G * 10 := by rw [hrow2, Array.size_append, Array.size_append, zc, zc, List.size_toArray, htl]; omega
  have ht2 : row2.toList.take (i * 10) = (l.flatMap ent).take (i * 10) := by
    rw [hrow2, Array.toList_append, Array.toList_append, List.append_assoc, List.take_append_of_le_length (by rw [List.toList_toArray, htl]; exact Nat.le_refl _), List.toList_toArray]
    exact List.take_of_length_le (by rw [htl]; exact Nat.le_refl _)
  obtain ⟨bn, hbn⟩ : ∃ bn, bn = w.heap.size := ⟨_, rfl⟩
  obtain ⟨W1, hW1⟩ : ∃ W1, W1 = w.drew.alloc (.cells row2 28) := ⟨_, rfl⟩
  rw [← hW1, ← hbn] at hrz
  have hob1 : ob W1 bn = some (.cells row2 28 (0, 0)) := by rw [hW1, hbn]; exact ob_new w.drew _
  have hx1 : ob W1 vb = some (.cells rowv 28 (0, 0)) := by rw [hW1]; rw [ob_alloc w.drew _ vb hvw]; exact hx
  have ho1 : ob W1 g = some (.cells row 28 (0, 0)) := by rw [hW1]; rw [ob_alloc w.drew _ g hgw]; exact ho
  have hf1 : Fr (fun _ => False) w W1 := by rw [hW1]; exact ((Fr.refl _ w).drew).alloc _
  have hgb : g ≠ bn := by omega
  have hvbn : vb ≠ bn := by omega
  have hcpA : ∀ ty dl dc, m ≤ dl → (Builtin.copy_ #[31, 31] ty #[.slice (some ⟨bn, i * 10, none⟩) dl dc, .slice (some ⟨vb, vo, none⟩) m vc]).run Try.prog W1 = .ok (goInt m) (W1.setCells bn (i * 10) (ms.flatMap ent)) := fun ty dl dc hd =>
    run_copy_sz W1 _ _ ty 28 bn _ dl dc _ m vc (ms.flatMap ent) Try.underlying31 sizeEnt m (by simp only [Nat.min_def]; split <;> omega) hml
      (fun j u hj => by rw [Addr.add_lit]; exact hcv _ hx1 j u hj)
      (fun j hj => by rw [cell_of_ob hob1, Array.getElem?_eq_getElem (by rw [hsz2]; rw [hml] at hj; omega)]; rfl) (fun j hj => frozen_of_ob hob1 _) (one_ents ms)
  obtain ⟨W2, hW2⟩ : ∃ W2, W2 = W1.setCells bn (i * 10) (ms.flatMap ent) := ⟨_, rfl⟩
  rw [← hW2] at hcpA
  have hob2 : ob W2 bn = some (.cells (rowPut row2 (i * 10) (ms.flatMap ent)) 28 (0, 0)) := by rw [hW2]; exact ob_setCells _ _ W1 _ hob1
  have ho2 : ob W2 g = some (.cells row 28 (0, 0)) := by rw [hW2]; exact (fr_setCells _ _ W1).keep hgb ho1
  have hf2 : Fr (fun _ => False) w W2 := by rw [hW2]; exact hf1.step (fr_setCells _ _ W1) (fun k hk => .inr (by rw [hk, hbn]; exact Nat.le_refl _))
  have hz2 : (rowPut row2 (i * 10) (ms.flatMap ent)).size = G * 10 := by rw [rowPut_size _ _ _ (by rw [hsz2, hml]; omega), hsz2]
  have hcell2 : ∀ j u, (l.flatMap ent)[j]? = some u → W2.cell? ⟨g, off + j, none⟩ = some u := fun j u hu => by
    rw [cell_of_ob ho2]
    rw [← ht, List.getElem?_take] at hu
    split at hu
    · simpa using hu
    · cases hu
  obtain ⟨W3, hW3⟩ : ∃ W3, W3 = W2.drew.setCells bn ((i + m) * 10) ((l.flatMap ent).drop (i * 10)) := ⟨_, rfl⟩
  have hcpB : ∀ ty dl sl dc sc, Nat.min sl dl = n - i → (Builtin.copy_ #[31, 31] ty #[.slice (some ⟨bn, (i + m) * 10, none⟩) dl dc, .slice (some ⟨g, off + i * 10, none⟩) sl sc]).run Try.prog W2.drew = .ok (goInt (n - i : Nat)) W3 := fun ty dl sl dc sc hm => by
    rw [hW3]
    exact run_copy_sz W2.drew _ _ ty 28 bn _ dl dc _ sl sc _ Try.underlying31 sizeEnt (n - i) hm hdl
      (fun j u hj => by rw [Addr.add_lit, Nat.add_assoc]; exact hcell2 _ u (by rwa [List.getElem?_drop] at hj))
      (fun j hj => by rw [show (W2.drew.cell? ⟨bn, (i + m) * 10 + j, none⟩) = W2.cell? ⟨bn, (i + m) * 10 + j, none⟩ from rfl, cell_of_ob hob2, Array.getElem?_eq_getElem (by rw [hz2]; rw [hdl] at hj; omega)]; rfl) (fun j hj => frozen_of_ob hob2 _) (fun u hu => h1c u (List.mem_of_mem_drop hu))
  have fin : Inserted w (.slice (some ⟨g, off, none⟩) n cap) (l.take i ++ ms ++ l.drop i) (.returned (.slice (some ⟨bn, 0, none⟩) (n + m) G)) W3 := by
    rw [hW3]
    refine ⟨_, rfl, .inr ⟨bn, 0, n + m, G, _, rfl, ob_setCells _ _ W2.drew _ hob2, ?_, hGn, hG63, ?_, ?_⟩, (hf2.drew.step (fr_setCells _ _ W2.drew) (fun k hk => .inr (by rw [hk, hbn]; exact Nat.le_refl _))).mono' (fun k hk => hk.elim), fun k hk => .inr (by cases hk; rw [hbn]; exact Nat.le_refl _)⟩
    · rw [len_ents]; simp; omega
    · rw [rowPut_size _ _ _ (by rw [hz2, hdl]; omega), hz2]; omega
    · have := grow_row (row := row2) (a := (l.flatMap ent).take (i * 10)) (vs := (ms.flatMap ent)) (b := (l.flatMap ent).drop (i * 10)) (by rw [htl]; exact ht2) (by rw [htl, hdl, hsz2, hml]; omega)
      rw [htl, hdl] at this
      have e1 : i * 10 + (ms.flatMap ent).length = (i + m) * 10 := by rw [hml]; omega
      have e2 : (i + m) * 10 + (n - i) * 10 = (n + m) * 10 := by omega
      rw [e1, e2] at this
      rw [List.drop_zero, this, flat_take, flat_drop]
      simp
  have FIN := Lib.hid fin
  have hin : ¬ ((i : Int) = (n : Int)) := by omega
  have hi1 : i ≤ n := by omega
  have hw1 : IntKind.i64.wrap ((i : Int) + (m : Int)) = (i : Int) + (m : Int) := by rw [IntKind.wrap_i64]; omega
  have htn : ((i : Int) + (m : Int)).toNat = i + m := by omega
  have hb1 : (0 : Int) ≤ (i : Int) + (m : Int) := by omega
  have hb3 : (i : Int) ≤ (n : Int) := by omega
  have hGb : G ≤ 9223372036854775807 := by simp only [maxLen] at hG63; omega
  have hGi : ¬ (G = i) := by omega
  have hGi1 : ¬ (G = i + m) := by omega
  have hci : ¬ (cap = i) := by omega
  have hcpBb := fun ty dc sc => hcpB ty (n + m - (i + m)) (n - i) dc sc (by simp only [Nat.min_def]; split <;> omega)
  clear fin hcell hcell2 hx1 ho1 hob1 hob2 ho2 hf1 hf2 hz2 hsz2 ht2 h1c hdl htl hcl ht ho hx hW1 hW2 hW3 hrow2 hG hG63 hold hik hkk hcpB zc hbn hgb hvbn hz0 hzs hzb hi0 hml hcv hvs hvt hm hv
  go_enter Try.func45, Try.ntmps45
  have hcpAb := fun ty dc => hcpA ty (n + m - i) dc (by omega)
  clear hcpA
  go_wp2_with (at_builtin; refine wpList_apprun rfl _ _ 31 3 rfl rfl rfl (hrz _) ?_)
  refine wp_region_canon [0, 1, 2, 3, 4, 5, 6, 7, 8] (by kernel_rfl) (by kernel_rfl) (fun K hK => ?_)
  simp only [List.map_cons, List.map_nil, List.getD_cons_succ, List.getD_cons_zero]
  go_wp2
  refine hK _ _ (by kernel_rfl) ?_
  clear hK K
  go_wp2
  go_ret
  exact FIN.out
/-- slices.Insert(s, i, x). -/
theorem insN_any {w : World} {v : Value} {l : List Ent} (h : SE w v l) (hl : l.length ≤ 1000) (vb vo m vc : Nat) (ms : List Ent) (hv : SE w (.slice (some ⟨vb, vo, none⟩) m vc) ms) (hm : m = ms.length) (hm1 : 1 ≤ m) (hm2 : m ≤ 1000) (hne : ∀ k, v.ownBlock = some k → k ≠ vb) (i : Nat) (hi : i ≤ l.length) :
    Calls Try.prog 45 #[v, .int .i64 i, .slice (some ⟨vb, vo, none⟩) m vc] w fun e w' => Inserted w v (l.take i ++ ms ++ l.drop i) e w' := by
  by_cases he : i = l.length
  · subst he
    have := insN_end h hl vb vo m vc ms hv hm hm1 hm2
    simpa using this
  · rcases id h with ⟨rfl, hnil⟩ | ⟨g, off, n, cap, row, rfl, ho, hlen, hnc, hcm, hs, ht⟩
    · have hl0 : l = [] := by cases l with | nil => rfl | cons a r => simp [ent] at hnil
      subst hl0; exact absurd (by simpa using hi) he
    · rw [len_ents] at hlen
      have hlen' : l.length = n := by omega
      by_cases hr : n + m ≤ cap
      · exact insN_room ho hlen' hcm hs ht (by omega) vb vo m vc ms hv hm hm1 hm2 (fun e => hne g rfl e.symm) i (by omega) hr
      · exact insN_grow ho hlen' hnc ht (by omega) vb vo m vc ms hv hm hm1 hm2 i (by omega) (by omega)
end Go.Proofs.Ytopglbkcciigbaa
