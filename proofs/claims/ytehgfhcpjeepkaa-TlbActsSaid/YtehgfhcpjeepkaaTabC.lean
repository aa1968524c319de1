/- tlb.Table in memory: drop. -/
import Derived.Test.YtehgfhcpjeepkaaTabB
namespace Go.Proofs.Ytehgfhcpjeepkaa
open Go.RowKit
set_option linter.unusedSimpArgs false
set_option linter.unusedVariables false
theorem flat_get : ∀ (l : List K2) (j : Nat) (k : K2), l[j]? = some k → (l.flatMap k2s)[j * 2]? = some (.int .i64 k.1) ∧ (l.flatMap k2s)[j * 2 + 1]? = some (.int .i64 k.2)
  | [], j, k, h => by simp at h
  | x :: l, 0, k, h => by
    simp at h; subst h; exact ⟨rfl, rfl⟩
  | x :: l, j + 1, k, h => by
    have := flat_get l j k (by simpa using h)
    rw [show (j + 1) * 2 = j * 2 + 2 by omega]
    simpa [k2s] using this
/-- What is left of a list when those of its first j that are so have gone. -/
def leftAt (p : K2 → Bool) (l : List (K2 × K2)) (j : Nat) : List (K2 × K2) := (l.take j).filter (fun x => !p x.1) ++ l.drop j
theorem alDel_mid {κ α : Type} [DecidableEq κ] : ∀ (a b : List (κ × α)) (k : κ) (v : α), k ∉ a.map (·.1) → alDel (a ++ (k, v) :: b) k = a ++ b
  | [], b, k, v, _ => by simp [alDel]
  | (x, u) :: a, b, k, v, h => by
    have hx : x ≠ k := fun e => h (by simp [e])
    have := alDel_mid a b k v (fun h2 => h (by simp at h2 ⊢; exact .inr h2))
    simp [alDel, hx, this]
theorem leftAt_succ (p : K2 → Bool) (l : List (K2 × K2)) (hnd : (l.map (·.1)).Nodup) (j : Nat) (x : K2 × K2) (hx : l[j]? = some x) :
    leftAt p l (j + 1) = if p x.1 then alDel (leftAt p l j) x.1 else leftAt p l j := by
  have hj : j < l.length := (List.getElem?_eq_some_iff.1 hx).1
  have hxe : l[j] = x := (List.getElem?_eq_some_iff.1 hx).2
  unfold leftAt
  rw [List.take_succ_eq_append_getElem hj, List.filter_append, hxe]
  have hd : l.drop j = x :: l.drop (j + 1) := by rw [List.drop_eq_getElem_cons hj, hxe]
  rw [hd]
  cases hp : p x.1 with
  | true =>
    simp only [hp, if_true]
    obtain ⟨k, v⟩ := x
    rw [alDel_mid]
    · simp [hp]
    · intro hm
      obtain ⟨y, hy, hyk⟩ := List.mem_map.1 hm
      have hy := (List.mem_filter.1 hy).1
      obtain ⟨i, hi, rfl⟩ := List.getElem_of_mem hy
      simp only [List.getElem_take, List.length_take] at hyk hi
      have := List.pairwise_iff_getElem.1 hnd i j (by simp; omega) (by simpa using hj) (by omega)
      simp [hyk, hxe] at this
  | false => simp [hp]
theorem leftAt_zero (p : K2 → Bool) (l : List (K2 × K2)) : leftAt p l 0 = l := by simp [leftAt]
theorem leftAt_all (p : K2 → Bool) (l : List (K2 × K2)) : leftAt p l l.length = l.filter (fun x => !p x.1) := by simp [leftAt]
def keysAt (p : K2 → Bool) (l : List (K2 × K2)) (j : Nat) : List K2 := ((l.take j).filter (fun x => !p x.1)).map (·.1)
theorem keysAt_succ (p : K2 → Bool) (l : List (K2 × K2)) (j : Nat) (x : K2 × K2) (hx : l[j]? = some x) : keysAt p l (j + 1) = if p x.1 then keysAt p l j else keysAt p l j ++ [x.1] := by
  have hj : j < l.length := (List.getElem?_eq_some_iff.1 hx).1
  have hxe : l[j] = x := (List.getElem?_eq_some_iff.1 hx).2
  unfold keysAt
  rw [List.take_succ_eq_append_getElem hj, List.filter_append, hxe]
  cases hp : p x.1 <;> simp [hp]
theorem keysAt_all (p : K2 → Bool) (l : List (K2 × K2)) : keysAt p l l.length = (l.filter (fun x => !p x.1)).map (·.1) := by simp [keysAt]
set_option maxHeartbeats 1000000 in
theorem drop_any {w : World} {b : Nat} {n : Int} {kv : Value} {m : Nat} {l : List (K2 × K2)} (h : Tab w b n kv m l) (hnd : (l.map (·.1)).Nodup) (hl : l.length ≤ 1000000) (f : FuncId) (cap : Array Value) (p : K2 → Bool) (hcf : ∀ args W, (callFunc f args).run Try.prog W = .ok (.enter f args) W)
    (hf : ∀ W (k : K2), Fr (fun j => j = m) w W → Calls Try.prog f (#[.agg #[.int .i64 k.1, .int .i64 k.2]] ++ cap) W fun e w' => e = .returned (.bool (p k)) ∧ Fr (fun _ => False) W w') :
    Calls Try.prog 23 #[.pointer (some ⟨b, 0, none⟩), .func (.func f) #[] cap] w fun e w' =>
      ∃ kv', e = .returned (.int .i64 (l.length - (l.filter (fun x => !p x.1)).length)) ∧ Tab w' b n kv' m (l.filter (fun x => !p x.1)) ∧ Fr (fun k => k = b ∨ k = m) w w' ∧ ∀ k, kv'.ownBlock = some k → w.heap.size ≤ k := by
  obtain ⟨A, N, C, rfl⟩ : ∃ A N C, kv = .slice A N C := by
    rcases h.keys with ⟨rfl, _⟩ | ⟨g, off, n, cap, row, rfl, _⟩ <;> exact ⟨_, _, _, rfl⟩
  have hN : N = l.length := by
    have := h.keys.len
    rw [len_flat, List.length_map] at this
    simp only [sliceLen] at this
    omega
  have c1 : w.cell? ⟨b, 1, none⟩ = some (.slice A N C) := cell_of_ob h.blk 1
  have f1 : w.frozen? ⟨b, 1, none⟩ = false := frozen_of_ob h.blk 1
  have hb := h.lt
  have HN := Lib.hid hN
  clear hN
  go_enter Try.func23, Try.ntmps23
  go_wp2
  go_loopw [6, 21] (fun left i wr => ∃ j : Nat, j ≤ l.length ∧ i = .int .i64 j ∧ Sl wr 27 2 left ((keysAt p l j).flatMap k2s) ∧ (∀ k, left.ownBlock = some k → w.heap.size ≤ k) ∧ MapIs k2 k2 wr m (leftAt p l j) ∧ Fr (fun k => k = m) w wr)
    (fun _ i _ => l.length - (intOf i).toNat)
  case atStart => exact ⟨0, Nat.zero_le _, rfl, Sl.nil _ _ _, (fun k hk => by cases hk), (by rw [leftAt_zero]; exact h.kept), Fr.refl _ _⟩
  case round =>
    obtain ⟨j, hj, rfl, hleft, hown, hmap, hfr⟩ := hrel
    by_cases hlt : j < l.length
    · obtain ⟨x, hx⟩ : ∃ x, x = l[j] := ⟨_, rfl⟩
      have hx? : l[j]? = some x := by rw [hx]; exact List.getElem?_eq_getElem hlt
      have hkeys := h.keys.fr hfr (fun k hk hm => h.mk' (by rw [hk, hm]))
      obtain ⟨hg0, hg1⟩ := flat_get (l.map (·.1)) j x.1 (by simp [hx?])
      obtain ⟨g, off, n', cap', heq, hgl, hcs, hfz, _⟩ := hkeys.form (by intro e; rw [e] at hg0; cases hg0)
      cases heq
      have hc0 := hcs _ _ hg0
      have hc1 := hcs _ _ hg1
      rw [← Nat.add_assoc] at hc1
      have HX := Lib.hid hx?
      have hNj : j < N := by rw [HN.out]; exact hlt
      clear hx hx? hg0 hg1 hcs hfz hkeys
      go_wp2_with fail
      refine (hf _ x.1 (hfr.alloc _)).mono ?_
      rintro e w1 ⟨rfl, hf1⟩
      obtain ⟨e1, e2, e3⟩ := hf1.all
      have hsz := hf1.size
      simp only [World.size_alloc] at hsz
      have hkz : wr.heap.size < w1.heap.size := by omega
      have hbr : b < wr.heap.size := by have := hfr.size; omega
      have hr0 : w1.cell? ⟨wr.heap.size, 0, none⟩ = some (.int .i64 x.1.1) := by rw [hf1.cell (by simp) (by simp)]; exact cell_of_ob (ob_new wr _) 0
      have hr1 : w1.cell? ⟨wr.heap.size, 1, none⟩ = some (.int .i64 x.1.2) := by rw [hf1.cell (by simp) (by simp)]; exact cell_of_ob (ob_new wr _) 1
      have hfr1 : Fr (fun k => k = m) w w1 := (hfr.alloc _).step hf1 (fun k hk => hk.elim)
      have hmap1 : MapIs k2 k2 w1 m (leftAt p l j) := hmap.of ((hf1.block m (by simp; have := hmap.lt; omega) (by simp)).trans (ob_alloc _ _ _ hmap.lt))
      have hleft1 : Sl w1 27 2 u6 ((keysAt p l j).flatMap k2s) := (hleft.alloc _).fr hf1 (fun _ _ h => h)
      clear e1 e2 e3 hc0 hc1
      have hb1 : b < w1.heap.size := by omega
      have hc2 : w1.cell? ⟨b, 2, none⟩ = some (.map (some m)) := by rw [hfr1.cell (by simpa using h.bm) h.lt]; exact cell_of_ob h.blk 2
      have HL := Lib.hid (leftAt_succ p l hnd j x HX.out)
      have HK := Lib.hid (keysAt_succ p l j x HX.out)
      obtain ⟨i0, hi, hz, hs, hby⟩ := info_of zeroKey
      have hlen : sliceLen u6 ≤ 1000000 := by
        have h1 := hleft.len
        rw [len_flat] at h1
        have h2 : (keysAt p l j).length ≤ l.length := by
          unfold keysAt
          rw [List.length_map]
          exact Nat.le_trans (List.length_filter_le _ _) (by simp; omega)
        omega
      by_cases hp : p x.1 = true
      · go_wp2
        refine wp_region_canon [0, 1, 2, 3, 4, 5] (by kernel_rfl) (by kernel_rfl) (fun K hK => ?_)
        simp only [List.map_cons, List.map_nil, List.getD_cons_succ, List.getD_cons_zero]
        go_wp2_with (at_delete; go_must (refine wpList_del rfl _ _ _ _ rfl rfl x.1 rfl key_k2 Try.underlying56 (hmap1.of rfl) ?_; intro o2 hm2))
        refine hK _ _ (by kernel_rfl) ?_
        clear hK K
        go_wp2
        go_roundw
        case rel =>
          refine ⟨j + 1, by omega, by go_num, ?_, hown, ?_, (hfr1.drew).putOb _ _ (.inl rfl)⟩
          · rw [HK.out, if_pos hp]
            exact hleft1.of fun k hk => (ob_putOb_ne _ _ _ _ (fun e => by have := hown k hk; have := h.mlt; omega))
          · rw [HL.out, if_pos hp]; exact hm2
        case measure => simp [intOf]; omega
      · go_wp2_with (at_builtin; go_must (refine wpList_app (v := u6) rfl _ _ _ rfl Try.underlying30 hi hz hs hby rfl (by decide) rfl (hleft1.alloc _) w1.heap.size 1 1 [.int .i64 x.1.1, .int .i64 x.1.2] rfl (ob_new _ _) rfl (by simp [Value.oneCell']) (by decide) (by simp only [maxLen]; omega) (by omega) ?_; intro v2 w2 hs2 hf2 ho2 hl2))
        go_wp2
        go_roundw
        case rel =>
          refine ⟨j + 1, by omega, by go_num, ?_, ?_, ?_, ?_⟩
          · rw [HK.out, if_neg hp, List.flatMap_append]; exact hs2
          · intro k hk
            rcases ho2 with ho2 | ⟨q, ho2, hq⟩
            · exact hown k (ho2 ▸ hk)
            · rw [ho2] at hk; cases hk; simp at hq; have := hfr1.size; omega
          · rw [HL.out, if_neg hp]
            exact (hmap1.of (ob_alloc _ _ _ hmap1.lt)).of (hf2.block m (by simp; have := hmap1.lt; omega) (fun e => by have := hown m e; have := h.mlt; omega))
          · exact (hfr1.alloc _).step hf2 (fun k hk => .inr (hown k hk))
        case measure => simp [intOf]; omega
    · have hje : j = l.length := by omega
      have HJ := Lib.hid hje
      clear hje
      have hb1 : b < wr.heap.size := by have := hfr.size; omega
      have hfb : wr.frozen? ⟨b, 1, none⟩ = false := by rw [hfr.frozen (by simpa using h.bm) h.lt]; exact f1
      have hcb : wr.cell? ⟨b, 1, none⟩ = some (.slice A N C) := by rw [hfr.cell (by simpa using h.bm) h.lt]; exact c1
      obtain ⟨A2, N2, C2, rfl⟩ : ∃ A N C, u6 = .slice A N C := by
        rcases hleft with ⟨rfl, _⟩ | ⟨g, off, n, cap, row, rfl, _⟩ <;> exact ⟨_, _, _, rfl⟩
      have hjN : ¬ j < N := by rw [HN.out, HJ.out]; omega
      go_wp2
      go_ret
      have hje := HJ.out
      have hNe := HN.out
      subst hje
      rw [keysAt_all] at hleft
      rw [leftAt_all] at hmap
      have hln := hleft.len
      rw [len_flat, List.length_map] at hln
      simp only [sliceLen] at hln
      have hfl := List.length_filter_le (fun x : K2 × K2 => !p x.1) l
      have hbn : ∀ k, (Value.slice A2 N2 C2).ownBlock = some k → k ≠ b := fun k hk e => by have := hown k hk; omega
      refine ⟨.slice A2 N2 C2, ?_, ⟨ob_setCell_same (hfr.keep (by simpa using h.bm) h.blk) _, ?_, ?_⟩, ?_, hown⟩
      · show Ending.returned (.int .i64 (wrap64 ((N : Int) - N2))) = _
        rw [show wrap64 ((N : Int) - N2) = (l.length : Int) - ((l.filter fun x => !p x.1).length : Int) by unfold wrap64; omega]
      · exact hleft.of fun k hk => ob_setCell _ _ _ _ (hbn k hk)
      · exact hmap.of (ob_setCell _ _ _ _ (Ne.symm h.bm))
      · exact (hfr.mono' (fun k hk => .inr hk)).setCell _ _ (.inl (.inl rfl))
end Go.Proofs.Ytehgfhcpjeepkaa
