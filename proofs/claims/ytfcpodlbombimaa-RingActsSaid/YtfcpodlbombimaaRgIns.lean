/- slices.Insert of one number. Conditions: at most 5000 numbers. -/
import Derived.Test.YtfcpodlbombimaaRgHI
import Derived.Lib.Overlaps
import Derived.Lib.AppendZeros
import Derived.Lib.AppendZerosOnto
import Derived.Laws.Externs
namespace Go.Proofs.Ytfcpodlbombimaa
open Go.RowKit
set_option linter.unusedSimpArgs false
set_option linter.unusedVariables false
theorem len_kvs (l : List Int) : (kvsI l).length = l.length := by simp
theorem kvs_take (l : List Int) (i : Nat) : (kvsI l).take i = kvsI (l.take i) := by simp [kvsI, List.map_take]
theorem kvs_drop (l : List Int) (i : Nat) : (kvsI l).drop i = kvsI (l.drop i) := by simp [kvsI, List.map_drop]
theorem sizeI : (Try.prog.info? 3).map (·.size) = some 1 := by kernel_rfl
/-- What an insertion gives. -/
def InsI (w : World) (v : Value) (l : List Int) (e : Ending) (w' : World) : Prop :=
  ∃ v', e = .returned v' ∧ SKI w' v' l ∧ Fr (fun k => v.ownBlock = some k) w w' ∧ ∀ k, v'.ownBlock = some k → v.ownBlock = some k ∨ w.heap.size ≤ k
set_option maxRecDepth 100000 in
set_option maxHeartbeats 4000000 in
theorem insI_end {w : World} {v : Value} {l : List Int} (h : SKI w v l) (hl : l.length ≤ 5000) (vb : Nat) (x : Int) (hx : ob w vb = some (.cells #[.int .i64 x] 3 (0, 0))) :
    Calls Try.prog 46 #[v, .int .i64 l.length, .slice (some ⟨vb, 0, none⟩) 1 1] w fun e w' => InsI w v (l ++ [x]) e w' := by
  have hN := h.elen
  have hN5 : sliceLen v ≤ 5000 := by omega
  obtain ⟨i0, hi, hz, hsz, hby⟩ := infoofI zeroI
  have hy : Sl w 3 1 (.slice (some ⟨vb, 0, none⟩) 1 1) [.int .i64 x] := .inr ⟨vb, 0, 1, 1, _, rfl, hx, rfl, Nat.le_refl _, by decide, by simp, rfl⟩
  have h1 : ∀ u ∈ [Value.int .i64 x], u.oneCell' = true := by simp [Value.oneCell']
  obtain ⟨n, hn⟩ : ∃ n, n = l.length := ⟨_, rfl⟩
  rw [← hn] at hN hl ⊢
  have HN := Lib.hid hn
  clear hn
  have fin : ∀ v' W, Sl W 3 1 v' (kvsI l ++ [.int .i64 x]) → Fr (fun k => v.ownBlock = some k) w W → (v'.ownBlock = v.ownBlock ∨ ∃ k, v'.ownBlock = some k ∧ w.heap.size ≤ k) → InsI w v (l ++ [x]) (.returned v') W := fun v' W h2 h3 h4 =>
    ⟨v', rfl, (by rw [show kvsI l ++ [Value.int .i64 x] = kvsI (l ++ [x]) by simp [kvsI, kvI]] at h2; exact h2), h3, fun k hk => by
      rcases h4 with h4 | ⟨q, h4, hq⟩
      · exact .inl (by rw [← h4]; exact hk)
      · rw [h4] at hk; cases hk; exact .inr hq⟩
  have FIN := Lib.hid fin
  clear fin
  go_enter Try.func46, Try.ntmps46
  rcases id h with ⟨rfl, hnil⟩ | ⟨g, off, n', cap, row, rfl, ho, hlen, hnc, hcm, hs, ht⟩
  · obtain rfl : n = 0 := by simpa [sliceLen] using hN.symm
    clear hN
    go_upto_region 7 with fail
    go_wp2_with (at_builtin; go_must (refine wpList_appsrc (y := .slice (some ⟨vb, 0, none⟩) 1 1) (v := .slice none 0 0) rfl _ _ _ rfl Try.underlying22 hi hz hsz hby rfl (by decide) rfl h rfl hy h1 (by simp only [maxLen, sliceLen]; omega) (by simp only [sliceLen]; omega) ?_; intro v' W h2 h3 h4 h5))
    go_wp2
    go_ret
    exact FIN.out v' W h2 h3 h4
  · obtain rfl : n = n' := by simpa [sliceLen] using hN.symm
    clear hN ho hlen hs ht
    by_cases hcn : cap = n
    · subst hcn
      go_upto_region 7 with fail
      go_wp2_with (at_builtin; go_must (refine wpList_appsrc (y := .slice (some ⟨vb, 0, none⟩) 1 1) (v := .slice (some ⟨g, off, none⟩) cap cap) rfl _ _ _ rfl Try.underlying22 hi hz hsz hby rfl (by decide) rfl h rfl hy h1 (by simp only [maxLen, sliceLen] at *; omega) (by simp only [sliceLen] at *; omega) ?_; intro v' W h2 h3 h4 h5))
      go_wp2
      go_ret
      exact FIN.out v' W h2 h3 h4
    · go_upto_region 7 with fail
      go_wp2_with (at_builtin; go_must (refine wpList_appsrc (y := .slice (some ⟨vb, 0, none⟩) 1 1) (v := .slice (some ⟨g, off, none⟩) n cap) rfl _ _ _ rfl Try.underlying22 hi hz hsz hby rfl (by decide) rfl h rfl hy h1 (by simp only [maxLen, sliceLen] at *; omega) (by simp only [sliceLen] at *; omega) ?_; intro v' W h2 h3 h4 h5))
      go_wp2
      go_ret
      exact FIN.out v' W h2 h3 h4
set_option maxRecDepth 100000 in
set_option maxHeartbeats 4000000 in
/-- There is room: in place. -/
theorem insI_room {w : World} {l : List Int} {g off n cap : Nat} {row : Array Value} (ho : ob w g = some (.cells row 3 (0, 0))) (hlen : l.length = n) (hcm : cap ≤ maxLen) (hs : off + cap ≤ row.size) (ht : (row.toList.drop off).take (n) = kvsI l)
    (hl : n ≤ 5000) (vb : Nat) (x : Int) (hx : ob w vb = some (.cells #[.int .i64 x] 3 (0, 0))) (hne : vb ≠ g) (i : Nat) (hi : i < n) (hr : n + 1 ≤ cap) :
    Calls Try.prog 46 #[.slice (some ⟨g, off, none⟩) n cap, .int .i64 i, .slice (some ⟨vb, 0, none⟩) 1 1] w fun e w' => InsI w (.slice (some ⟨g, off, none⟩) n cap) (l.take i ++ x :: l.drop i) e w' := by
  have hcl : (kvsI l).length = n := by rw [len_kvs, hlen]
  have hdl : ((kvsI l).drop (i)).length = (n - i) := by rw [List.length_drop, hcl]
  have hov : ∀ lb cb, (callFunc 53 #[.slice (some ⟨vb, 0, none⟩) 1 1, .slice (some ⟨g, off + (i + 1), none⟩) lb cb]).run Try.prog w = .ok (.value (.bool false)) w := fun lb cb => by
    rw [run_callFunc_extern Try.func53 (by kernel_rfl) (by kernel_rfl) (by kernel_rfl) (e := Extern.SlicesOverlaps.overlaps #[22, 22] #[4]) (by kernel_rfl),
      Lib.run_overlaps_apart w 22 4 3 Try.underlying22 1 Try.sizeOf3 ⟨vb, 0, none⟩ ⟨g, off + (i + 1), none⟩ 1 1 lb cb hne 3 3 1 row.size (shape_of_ob hx) (shape_of_ob ho) (by omega) (frozen_of_ob hx _) (frozen_of_ob hx _)]
    rfl
  have hcell : ∀ j u, (kvsI l)[j]? = some u → w.cell? ⟨g, off + j, none⟩ = some u := fun j u hu => by
    rw [cell_of_ob ho]
    rw [← ht, List.getElem?_take] at hu
    split at hu
    · simpa using hu
    · cases hu
  have h1c := oneI l
  have hsp : ∀ j, j < (n + 1) → (w.cell? ⟨g, off + j, none⟩).isSome = true := fun j hj => by
    rw [cell_of_ob ho, Array.getElem?_eq_getElem (by omega)]; rfl
  have hcp1 : ∀ ty dl sl dc sc, Nat.min sl dl = n - i → (Builtin.copy_ #[22, 22] ty #[.slice (some ⟨g, off + (i + 1), none⟩) dl dc, .slice (some ⟨g, off + i, none⟩) sl sc]).run Try.prog w.drew = .ok (goInt (n - i : Nat)) (w.drew.setCells g (off + (i + 1)) ((kvsI l).drop (i))) := fun ty dl sl dc sc hm =>
    run_copy_sz w.drew _ _ ty 3 g _ dl dc _ sl sc _ Try.underlying22 sizeI (n - i) hm (by rw [hdl, Nat.mul_one])
      (fun j u hj => by rw [Addr.add_lit, Nat.add_assoc]; exact hcell _ u (by rwa [List.getElem?_drop] at hj))
      (fun j hj => by rw [Nat.add_assoc]; exact hsp _ (by rw [hdl] at hj; omega)) (fun j hj => frozen_of_ob ho _) (fun u hu => h1c u (List.mem_of_mem_drop hu))
  obtain ⟨W1, hW1⟩ : ∃ W1, W1 = w.drew.setCells g (off + (i + 1)) ((kvsI l).drop (i)) := ⟨_, rfl⟩
  have ho1 : ob W1 g = some (.cells (rowPut row (off + (i + 1)) ((kvsI l).drop (i))) 3 (0, 0)) := by rw [hW1]; exact ob_setCells _ _ w.drew _ ho
  have hx1 : ob W1 vb = some (.cells #[.int .i64 x] 3 (0, 0)) := by rw [hW1]; exact (fr_setCells _ _ w.drew).keep hne hx
  have hz1 : (rowPut row (off + (i + 1)) ((kvsI l).drop (i))).size = row.size := rowPut_size _ _ _ (by rw [hdl]; omega)
  have hf1 : Fr (fun k => k = g) w W1 := by rw [hW1]; exact (Fr.refl _ w).drew.step (fr_setCells _ _ w.drew) (fun k hk => .inl hk)
  have hcp2 : ∀ ty dl dc, 1 ≤ dl → (Builtin.copy_ #[22, 22] ty #[.slice (some ⟨g, off + i, none⟩) dl dc, .slice (some ⟨vb, 0, none⟩) 1 1]).run Try.prog W1 = .ok (goInt (1 : Nat)) (W1.setCells g (off + i) [.int .i64 x]) := fun ty dl dc hd =>
    run_copy_sz W1 _ _ ty 3 g _ dl dc _ 1 1 [.int .i64 x] Try.underlying22 sizeI 1 (by simp only [Nat.min_def]; split <;> omega) rfl
      (fun j u hj => by rw [Addr.add_lit, cell_of_ob hx1]; simpa using hj)
      (fun j hj => by rw [cell_of_ob ho1, Array.getElem?_eq_getElem (by rw [hz1]; simp at hj; omega)]; rfl) (fun j hj => frozen_of_ob ho1 _) (by simp [Value.oneCell'])
  have fin : InsI w (.slice (some ⟨g, off, none⟩) n cap) (l.take i ++ x :: l.drop i) (.returned (.slice (some ⟨g, off, none⟩) (n + 1) cap)) (W1.setCells g (off + i) [.int .i64 x]) := by
    refine ⟨_, rfl, .inr ⟨g, off, n + 1, cap, _, rfl, ob_setCells _ _ W1 _ ho1, ?_, hr, hcm, ?_, ?_⟩, (hf1.step (fr_setCells _ _ W1) (fun k hk => .inl hk)).mono' (fun k hk => by rw [hk]; rfl), fun k hk => .inl hk⟩
    · rw [len_kvs]; simp; omega
    · rw [rowPut_size _ _ _ (by rw [hz1]; simp; omega), hz1]; omega
    · have := shift_row (row := row) (cs := kvsI l) (vs := [Value.int .i64 x]) (off := off) (p := i) (by rw [hcl]; omega) (by rw [hcl]; simp; omega) (by rw [hcl]; exact ht)
      rw [hcl] at this
      have e1 : i + [Value.int .i64 x].length = (i + 1) := by simp
      have e2 : n + [Value.int .i64 x].length = (n + 1) := by simp
      rw [e1, e2] at this
      rw [Nat.mul_one, this, kvs_take, kvs_drop]
      simp [kvsI, kvI]
  have FIN := Lib.hid fin
  have hin : ¬ ((i : Int) = (n : Int)) := by omega
  have hi1 : i ≤ n := by omega
  have hc1 : ¬ (cap = i) := by omega
  have hc2 : ¬ (cap = i + 1) ∨ cap = i + 1 := by omega
  have hw1 : IntKind.i64.wrap ((i : Int) + 1) = (i : Int) + 1 := by rw [IntKind.wrap_i64]; omega
  have htn : ((i : Int) + 1).toNat = i + 1 := by omega
  have hb1 : (0 : Int) ≤ (i : Int) + 1 := by omega
  have hb3 : (i : Int) ≤ (n : Int) + 1 := by omega
  have hcapi : (cap : Int) ≤ 9223372036854775807 := by simp only [maxLen] at hcm; omega
  have hci : ¬ (cap = i + 1) := by omega
  clear fin hcell hsp hx1 hz1 h1c hdl hcl ho1 hf1 hs ht ho hx hc2 hcm
  go_enter Try.func46, Try.ntmps46
  go_wp2_with (simp only [hov])
  refine wp_region_canon [0, 1, 2, 3, 4, 5, 6, 7, 8] (by kernel_rfl) (by kernel_rfl) (fun K hK => ?_)
  simp only [List.map_cons, List.map_nil, List.getD_cons_succ, List.getD_cons_zero]
  have hcp1b := fun ty dc sc => hcp1 ty (n - i) (n + 1 - i) dc sc (by simp only [Nat.min_def]; split <;> omega)
  rw [← hW1] at hcp1b
  go_wp2
  refine hK _ _ (by kernel_rfl) ?_
  clear hK K
  clear hov hcp1 hcp1b
  subst hW1
  have hcp2b := fun ty dc => hcp2 ty (n + 1 - i) dc (by omega)
  clear hcp2
  go_wp2
  go_ret
  exact FIN.out
set_option maxRecDepth 100000 in
set_option maxHeartbeats 4000000 in
/-- There is no room: a new row. -/
theorem insI_grow {w : World} {l : List Int} {g off n cap : Nat} {row : Array Value} (ho : ob w g = some (.cells row 3 (0, 0))) (hlen : l.length = n) (hnc : n ≤ cap) (ht : (row.toList.drop off).take (n) = kvsI l)
    (hl : n ≤ 5000) (vb : Nat) (x : Int) (hx : ob w vb = some (.cells #[.int .i64 x] 3 (0, 0))) (i : Nat) (hi : i < n) (hr : cap < n + 1) :
    Calls Try.prog 46 #[.slice (some ⟨g, off, none⟩) n cap, .int .i64 i, .slice (some ⟨vb, 0, none⟩) 1 1] w fun e w' => InsI w (.slice (some ⟨g, off, none⟩) n cap) (l.take i ++ x :: l.drop i) e w' := by
  obtain ⟨i0, hi0, hz0, hzs, hzb⟩ := infoofI zeroI
  have hcl : (kvsI l).length = n := by rw [len_kvs, hlen]
  have hdl : ((kvsI l).drop (i)).length = (n - i) := by rw [List.length_drop, hcl]
  have htl : ((kvsI l).take (i)).length = i := by rw [List.length_take, hcl]; omega
  have hcell : ∀ j u, (kvsI l)[j]? = some u → w.cell? ⟨g, off + j, none⟩ = some u := fun j u hu => by
    rw [cell_of_ob ho]
    rw [← ht, List.getElem?_take] at hu
    split at hu
    · simpa using hu
    · cases hu
  have h1c := oneI l
  have hgw := ob_lt ho
  have hvw := ob_lt hx
  have hkk : (n : Int) + 1 - (i : Int) = ((n + 1 - i : Nat) : Int) := by omega
  have hik : i + (n + 1 - i) = n + 1 := by omega
  have hold : (Builtin.firstCells i0.size i (.slice (some ⟨g, off, none⟩) i cap)).run Try.prog w.drew = .ok ((kvsI l).take (i)).toArray w.drew := by
    rw [hzs]
    exact run_firstCells_some w.drew 1 i ⟨g, off, none⟩ i cap _ (by rw [htl, Nat.mul_one]) (fun j u hj => by
      rw [Addr.add_lit]
      rw [List.getElem?_take] at hj
      split at hj
      · exact hcell j u hj
      · cases hj)
  obtain ⟨G, hG⟩ : ∃ G, G = grownCap w (n + 1) cap 3 := ⟨_, rfl⟩
  have hGn : n + 1 ≤ G := by rw [hG]; exact grownCap_ge w _ _ _
  have hG63 : G ≤ maxLen := by rw [hG]; exact grownCap_le_maxLen w (n + 1) cap _ (by unfold maxLen; omega)
  obtain ⟨row2, hrow2⟩ : ∃ row2 : Array Value, row2 = ((kvsI l).take (i)).toArray ++ Builtin.zeroCells (Value.int .i64 0).cells (n + 1 - i) ++ Builtin.zeroCells (Value.int .i64 0).cells (G - (n + 1)) := ⟨_, rfl⟩
  have hrz : ∀ ty, (Builtin.append_ #[22, 3] ty #[.slice (some ⟨g, off, none⟩) i cap, .int .i64 ((n : Int) + 1 - (i : Int))]).run Try.prog w = .ok (.slice (some ⟨w.heap.size, 0, none⟩) (n + 1) G) (w.drew.alloc (.cells row2 3)) := fun ty => by
    have h := Lib.run_append_grow_zeros w 22 3 ty 3 i0 _ .i64 .i64 Try.underlying22 Try.underlying3 hi0 hz0 (some ⟨g, off, none⟩) i cap ((kvsI l).take (i)) hold (n + 1 - i) (by omega) (by rw [hzs]; omega) (by omega) (by omega) (by rw [hzb]; omega) (by rw [hzb, hik]; exact growslice_fits hr (by omega))
    rw [hik, ← hG, ← hrow2] at h
    rw [hkk]
    exact h
  have zc : ∀ k, (Builtin.zeroCells (Value.int .i64 0).cells k).size = k := fun k => by
    simp [Builtin.zeroCells, Value.cells]
    first | done | omega
  have hsz2 : row2.size = G := by rw [hrow2, Array.size_append, Array.size_append, zc, zc, List.size_toArray, htl]; omega
  have ht2 : row2.toList.take (i) = (kvsI l).take (i) := by
    rw [hrow2, Array.toList_append, Array.toList_append, List.append_assoc, List.take_append_of_le_length (by rw [List.toList_toArray, htl]; exact Nat.le_refl _), List.toList_toArray]
    exact List.take_of_length_le (by rw [htl]; exact Nat.le_refl _)
  obtain ⟨bn, hbn⟩ : ∃ bn, bn = w.heap.size := ⟨_, rfl⟩
  obtain ⟨W1, hW1⟩ : ∃ W1, W1 = w.drew.alloc (.cells row2 3) := ⟨_, rfl⟩
  rw [← hW1, ← hbn] at hrz
  have hob1 : ob W1 bn = some (.cells row2 3 (0, 0)) := by rw [hW1, hbn]; exact ob_new w.drew _
  have hx1 : ob W1 vb = some (.cells #[.int .i64 x] 3 (0, 0)) := by rw [hW1]; rw [ob_alloc w.drew _ vb hvw]; exact hx
  have ho1 : ob W1 g = some (.cells row 3 (0, 0)) := by rw [hW1]; rw [ob_alloc w.drew _ g hgw]; exact ho
  have hf1 : Fr (fun _ => False) w W1 := by rw [hW1]; exact ((Fr.refl _ w).drew).alloc _
  have hgb : g ≠ bn := by omega
  have hvbn : vb ≠ bn := by omega
  have hcpA : ∀ ty dl dc, 1 ≤ dl → (Builtin.copy_ #[22, 22] ty #[.slice (some ⟨bn, i, none⟩) dl dc, .slice (some ⟨vb, 0, none⟩) 1 1]).run Try.prog W1 = .ok (goInt (1 : Nat)) (W1.setCells bn (i) [.int .i64 x]) := fun ty dl dc hd =>
    run_copy_sz W1 _ _ ty 3 bn _ dl dc _ 1 1 [.int .i64 x] Try.underlying22 sizeI 1 (by simp only [Nat.min_def]; split <;> omega) rfl
      (fun j u hj => by rw [Addr.add_lit, cell_of_ob hx1]; simpa using hj)
      (fun j hj => by rw [cell_of_ob hob1, Array.getElem?_eq_getElem (by rw [hsz2]; simp at hj; omega)]; rfl) (fun j hj => frozen_of_ob hob1 _) (by simp [Value.oneCell'])
  obtain ⟨W2, hW2⟩ : ∃ W2, W2 = W1.setCells bn (i) [.int .i64 x] := ⟨_, rfl⟩
  rw [← hW2] at hcpA
  have hob2 : ob W2 bn = some (.cells (rowPut row2 (i) [.int .i64 x]) 3 (0, 0)) := by rw [hW2]; exact ob_setCells _ _ W1 _ hob1
  have ho2 : ob W2 g = some (.cells row 3 (0, 0)) := by rw [hW2]; exact (fr_setCells _ _ W1).keep hgb ho1
  have hf2 : Fr (fun _ => False) w W2 := by rw [hW2]; exact hf1.step (fr_setCells _ _ W1) (fun k hk => .inr (by rw [hk, hbn]; exact Nat.le_refl _))
  have hz2 : (rowPut row2 (i) [.int .i64 x]).size = G := by rw [rowPut_size _ _ _ (by rw [hsz2]; simp; omega), hsz2]
  have hcell2 : ∀ j u, (kvsI l)[j]? = some u → W2.cell? ⟨g, off + j, none⟩ = some u := fun j u hu => by
    rw [cell_of_ob ho2]
    rw [← ht, List.getElem?_take] at hu
    split at hu
    · simpa using hu
    · cases hu
  obtain ⟨W3, hW3⟩ : ∃ W3, W3 = W2.drew.setCells bn ((i + 1)) ((kvsI l).drop (i)) := ⟨_, rfl⟩
  have hcpB : ∀ ty dl sl dc sc, Nat.min sl dl = n - i → (Builtin.copy_ #[22, 22] ty #[.slice (some ⟨bn, (i + 1), none⟩) dl dc, .slice (some ⟨g, off + i, none⟩) sl sc]).run Try.prog W2.drew = .ok (goInt (n - i : Nat)) W3 := fun ty dl sl dc sc hm => by
    rw [hW3]
    exact run_copy_sz W2.drew _ _ ty 3 bn _ dl dc _ sl sc _ Try.underlying22 sizeI (n - i) hm (by rw [hdl, Nat.mul_one])
      (fun j u hj => by rw [Addr.add_lit, Nat.add_assoc]; exact hcell2 _ u (by rwa [List.getElem?_drop] at hj))
      (fun j hj => by rw [show (W2.drew.cell? ⟨bn, (i + 1) + j, none⟩) = W2.cell? ⟨bn, (i + 1) + j, none⟩ from rfl, cell_of_ob hob2, Array.getElem?_eq_getElem (by rw [hz2]; rw [hdl] at hj; omega)]; rfl) (fun j hj => frozen_of_ob hob2 _) (fun u hu => h1c u (List.mem_of_mem_drop hu))
  have fin : InsI w (.slice (some ⟨g, off, none⟩) n cap) (l.take i ++ x :: l.drop i) (.returned (.slice (some ⟨bn, 0, none⟩) (n + 1) G)) W3 := by
    rw [hW3]
    refine ⟨_, rfl, .inr ⟨bn, 0, n + 1, G, _, rfl, ob_setCells _ _ W2.drew _ hob2, ?_, hGn, hG63, ?_, ?_⟩, (hf2.drew.step (fr_setCells _ _ W2.drew) (fun k hk => .inr (by rw [hk, hbn]; exact Nat.le_refl _))).mono' (fun k hk => hk.elim), fun k hk => .inr (by cases hk; rw [hbn]; exact Nat.le_refl _)⟩
    · rw [len_kvs]; simp; omega
    · rw [rowPut_size _ _ _ (by rw [hz2, hdl]; omega), hz2]; omega
    · have := grow_row (row := row2) (a := (kvsI l).take (i)) (vs := [Value.int .i64 x]) (b := (kvsI l).drop (i)) (by rw [htl]; exact ht2) (by rw [htl, hdl, hsz2]; simp; omega)
      rw [htl, hdl] at this
      have e1 : i + [Value.int .i64 x].length = (i + 1) := by simp
      have e2 : (i + 1) + (n - i) = (n + 1) := by omega
      rw [e1, e2] at this
      rw [Nat.mul_one, List.drop_zero, this, kvs_take, kvs_drop]
      simp [kvsI, kvI]
  have FIN := Lib.hid fin
  have hin : ¬ ((i : Int) = (n : Int)) := by omega
  have hi1 : i ≤ n := by omega
  have hw1 : IntKind.i64.wrap ((i : Int) + 1) = (i : Int) + 1 := by rw [IntKind.wrap_i64]; omega
  have htn : ((i : Int) + 1).toNat = i + 1 := by omega
  have hb1 : (0 : Int) ≤ (i : Int) + 1 := by omega
  have hb3 : (i : Int) ≤ (n : Int) := by omega
  have hGb : G ≤ 9223372036854775807 := by simp only [maxLen] at hG63; omega
  have hGi : ¬ (G = i) := by omega
  have hGi1 : ¬ (G = i + 1) := by omega
  have hci : ¬ (cap = i) := by omega
  have hcpBb := fun ty dc sc => hcpB ty (n - i) (n - i) dc sc (by simp)
  clear fin hcell hcell2 hx1 ho1 hob1 hob2 ho2 hf1 hf2 hz2 hsz2 ht2 h1c hdl htl hcl ht ho hx hW1 hW2 hW3 hrow2 hG hG63 hold hik hkk hcpB zc hbn hgb hvbn hz0 hzs hzb hi0
  go_enter Try.func46, Try.ntmps46
  have hcpAb := fun ty dc => hcpA ty (n + 1 - i) dc (by omega)
  clear hcpA
  go_wp2_with (at_builtin; refine wpList_apprun rfl _ _ 22 3 rfl rfl rfl (hrz _) ?_)
  refine wp_region_canon [0, 1, 2, 3, 4, 5, 6, 7, 8] (by kernel_rfl) (by kernel_rfl) (fun K hK => ?_)
  simp only [List.map_cons, List.map_nil, List.getD_cons_succ, List.getD_cons_zero]
  go_wp2
  refine hK _ _ (by kernel_rfl) ?_
  clear hK K
  go_wp2
  go_ret
  exact FIN.out
/-- slices.Insert(s, i, x). -/
theorem insI_any {w : World} {v : Value} {l : List Int} (h : SKI w v l) (hl : l.length ≤ 5000) (vb : Nat) (x : Int) (hx : ob w vb = some (.cells #[.int .i64 x] 3 (0, 0))) (hne : ∀ k, v.ownBlock = some k → k ≠ vb) (i : Nat) (hi : i ≤ l.length) :
    Calls Try.prog 46 #[v, .int .i64 i, .slice (some ⟨vb, 0, none⟩) 1 1] w fun e w' => InsI w v (l.take i ++ x :: l.drop i) e w' := by
  by_cases he : i = l.length
  · subst he
    have := insI_end h hl vb x hx
    simpa using this
  · rcases id h with ⟨rfl, hnil⟩ | ⟨g, off, n, cap, row, rfl, ho, hlen, hnc, hcm, hs, ht⟩
    · have hl0 : l = [] := by cases l with | nil => rfl | cons a r => simp at hnil
      subst hl0; exact absurd (by simpa using hi) he
    · rw [len_kvs] at hlen
      have hlen' : l.length = n := by omega
      by_cases hr : n + 1 ≤ cap
      · exact insI_room ho hlen' hcm (by omega) (by rw [Nat.mul_one] at ht; exact ht) (by omega) vb x hx (fun e => hne g rfl e.symm) i (by omega) hr
      · exact insI_grow ho hlen' hnc (by rw [Nat.mul_one] at ht; exact ht) (by omega) vb x hx i (by omega) (by omega)
end Go.Proofs.Ytfcpodlbombimaa
