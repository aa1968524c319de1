/- anon's heap of free numbers: pop. Conditions: at most 100000 numbers. -/
import Derived.Test.YtalinhpdibdlkaaAn
namespace Go.Proofs.Ytalinhpdibdlkaa
open Go.RowKit
set_option linter.unusedSimpArgs false
set_option linter.unusedVariables false
theorem Sl.front {w : World} {e : TypeId} {sz g off n cap : Nat} {cs : List Value} (h : Sl w e sz (.slice (some ⟨g, off, none⟩) n cap) cs) (k : Nat) (hk : k ≤ n) : Sl w e sz (.slice (some ⟨g, off, none⟩) k cap) (cs.take (k * sz)) := by
  rcases h with ⟨h0, _⟩ | ⟨g', off', n', cap', row, heq, ho, hl, hc, hm, hs, ht⟩
  · cases h0
  · cases heq
    have e3 : k * sz ≤ n * sz := Nat.mul_le_mul_right _ hk
    refine .inr ⟨g, off, k, cap, row, rfl, ho, by rw [List.length_take, hl]; omega, by omega, hm, hs, ?_⟩
    rw [← ht, List.take_take, Nat.min_eq_left e3]
set_option maxRecDepth 100000 in
set_option maxHeartbeats 2000000 in
theorem pop_any {w : World} {b : Nat} {v0 v1 v2 fv last : Value} {l : List Int} (hb : ob w b = some (.cells #[v0, v1, v2, fv, last] 63 (0, 0))) (hs : Sl w 3 1 fv (ints l)) (hh : HeapOK l) (hl : l.length ≤ 100000) (h0 : 0 < l.length) (hob : fv.ownBlock ≠ some b) :
    Calls Try.prog 27 #[.pointer (some ⟨b, 3, none⟩)] w fun e w' => e = .returned (.int .i64 (at' l 0)) ∧ Freed w b [v0, v1, v2] fv last w' (fun l' => (at' l 0 :: l').Perm l) := by
  obtain ⟨g, off, N, C, rfl, hgl, hfz, hN, hcs⟩ := hs.num h0
  obtain ⟨M, hM⟩ : ∃ M, M = l.length - 1 := ⟨_, rfl⟩
  obtain rfl : N = M + 1 := by omega
  have hM5 : M ≤ 100000 := by omega
  have hcap := hs.ncap
  have hcap1 := hcap.1
  have c3 : w.cell? ⟨b, 3, none⟩ = some (.slice (some ⟨g, off, none⟩) (M + 1) C) := cell_of_ob hb 3
  have hbl := ob_lt hb
  have c0 := hcs 0 h0
  have cM := hcs M (by omega)
  have f0 := hfz off
  obtain ⟨x, hx⟩ : ∃ x, x = at' l 0 := ⟨_, rfl⟩
  obtain ⟨z, hz⟩ : ∃ z, z = at' l M := ⟨_, rfl⟩
  rw [← hx, Nat.add_zero] at c0
  rw [← hz] at cM
  rw [← hx]
  have HX := Lib.hid hx
  have HZ := Lib.hid hz
  have HM := Lib.hid hM
  have hgb : g ≠ b := fun e => hob (by rw [← e]; rfl)
  have hN1 : ((M + 1 : Nat) : Int) - 1 = (M : Int) := by omega
  have hlM : M + 1 = l.length := by omega
  have HlM := Lib.hid hlM
  clear hx hz hM hcap hfz hcs hN hlM
  go_enter Try.func27, Try.ntmps27
  go_wp2_with fail
  obtain ⟨W, hW⟩ : ∃ W, W = w.setCell ⟨g, off, none⟩ (.int .i64 z) := ⟨_, rfl⟩
  rw [← hW]
  obtain ⟨l1, hl1⟩ : ∃ l1, l1 = (l.set 0 z).take M := ⟨_, rfl⟩
  have hsW : Sl W 3 1 (.slice (some ⟨g, off, none⟩) M C) (ints l1) := by
    have h1 := (hs.set1 0 z h0).front M (by omega)
    rw [Nat.add_zero, ← hW] at h1
    rw [hl1, ints, List.map_take]
    simpa using h1
  have hp1 : (x :: l1).Perm l := by
    have := pop_perm l h0
    rw [← HM.out, ← HZ.out, ← HX.out] at this
    rw [hl1]; exact this
  have hd1 : DownOK l1 0 := by
    have := down_start l hh z
    rw [← HM.out] at this
    rw [hl1]; exact this
  have hlen1 : l1.length = M := by rw [hl1, List.length_take, List.length_set]; have := HlM.out; omega
  have hfW : Fr (fun k => k = g) w W := by rw [hW]; exact (Fr.refl (fun k => k = g) w).setCell ⟨g, off, none⟩ _ (.inl rfl)
  have hbW : ob W b = some (.cells #[v0, v1, v2, .slice (some ⟨g, off, none⟩) (M + 1) C, last] 63 (0, 0)) := hfW.keep (fun e => hgb e.symm) hb
  have HL1 := Lib.hid hlen1
  clear hW hl1 c0 cM f0 c3 hN1 hlen1
  go_loopw [6] (fun v wr => ∃ (i : Nat) (lc : List Int), v = .int .i64 i ∧ Sl wr 3 1 (.slice (some ⟨g, off, none⟩) M C) (ints lc) ∧ DownOK lc i ∧ lc.Perm l1 ∧ Fr (fun k => k = g) W wr ∧ (i = 0 ∨ i < M)) (fun v _ => M - (intOf v).toNat)
  case atStart => exact ⟨0, l1, rfl, hsW, hd1, .refl _, Fr.refl _ _, .inl rfl⟩
  case round =>
    obtain ⟨i, lc, rfl, hsl, hdn, hpm, hfr, hiM⟩ := hrel
    have hlc : lc.length = M := by rw [hpm.length_eq, HL1.out]
    have hbr := hfr.keep (fun e => hgb e.symm) hbW
    have hblr := ob_lt hbr
    have fb : wr.frozen? ⟨b, 3, none⟩ = false := frozen_of_ob hbr 3
    have cb : wr.cell? ⟨b, 3, none⟩ = some (.slice (some ⟨g, off, none⟩) (M + 1) C) := cell_of_ob hbr 3
    have fin : HeapOK lc → Freed w b [v0, v1, v2] (.slice (some ⟨g, off, none⟩) (M + 1) C) last (wr.setCell ⟨b, 3, none⟩ (.slice (some ⟨g, off, none⟩) M C)).drew.drew (fun l' => (x :: l').Perm l) := by
      intro hOK
      refine ⟨.slice (some ⟨g, off, none⟩) M C, lc, ?_, ?_, hOK, (hpm.cons x).trans hp1, ?_, fun q hq => .inl hq⟩
      · exact ob_setCell_same hbr _
      · exact (hsl.of fun q hq => ob_setCell _ _ _ _ (fun e => hgb (by have h1 : g = q := Option.some.inj hq; simp at e; omega)))
      · exact (((hfW.mono' (S2 := fun k => k = b ∨ (Value.slice (some ⟨g, off, none⟩) (M + 1) C).ownBlock = some k) (fun k hk => .inr (by rw [hk]; rfl))).step hfr (fun k hk => .inl (.inr (by rw [hk]; rfl)))).setCell _ _ (.inl (.inl rfl))).drew.drew
    have hNUM := Lib.hid (fun hi : i < lc.length => hsl.num hi)
    obtain ⟨κ1, hκ1⟩ : ∃ κ1, κ1 = 2 * i + 1 := ⟨_, rfl⟩
    obtain ⟨κ2, hκ2⟩ : ∃ κ2, κ2 = 2 * i + 2 := ⟨_, rfl⟩
    have hk1 : 2 * (i : Int) + 1 = (κ1 : Int) := by omega
    have hk2 : (κ1 : Int) + 1 = (κ2 : Int) := by omega
    have hi5 : i ≤ 100000 := by omega
    have HK1 := Lib.hid hκ1
    have HK2 := Lib.hid hκ2
    by_cases hM1 : M ≤ κ1
    · have hM1' : ¬ (κ2 < M) := by omega
      clear hκ1 hκ2
      go_wp2_with fail
      refine wp_region_canon [0, 1, 2, 3, 4, 5, 6, 7, 8, 10, 11, 12, 9, 13, 14, 15] (by kernel_rfl) (by kernel_rfl) (fun K hK => ?_)
      simp only [List.map_cons, List.map_nil, List.getD_cons_succ, List.getD_cons_zero]
      go_wp2
      refine hK _ _ (by kernel_rfl) ?_
      clear hK K
      go_wp2
      refine wp_region_canon [0, 1, 2, 3, 4, 5, 6, 8, 9, 10, 7, 11, 12, 13] (by kernel_rfl) (by kernel_rfl) (fun K hK => ?_)
      simp only [List.map_cons, List.map_nil, List.getD_cons_succ, List.getD_cons_zero]
      go_wp2
      refine hK _ _ (by kernel_rfl) ?_
      clear hK K
      go_wp2
      go_ret
      exact ⟨rfl, fin (down_end lc i hdn (.inl (by have := HK1.out; omega)))⟩
    · have hil : i < lc.length := by omega
      obtain ⟨_, _, _, _, heq, _, hfz, -, hcs⟩ := hNUM.out hil
      cases heq
      have fz := Lib.hid hfz
      have fi := hfz (off + i)
      have c1 := hcs κ1 (by omega)
      have ci := hcs i hil
      have hCS := Lib.hid hcs
      obtain ⟨x1, hx1⟩ : ∃ x1, x1 = at' lc κ1 := ⟨_, rfl⟩
      obtain ⟨xi, hxi⟩ : ∃ xi, xi = at' lc i := ⟨_, rfl⟩
      rw [← hx1] at c1
      rw [← hxi] at ci
      have HX1 := Lib.hid hx1
      have HXI := Lib.hid hxi
      clear hx1 hxi hfz hcs
      by_cases hM2 : κ2 < M
      · have c2 := hCS.out κ2 (by omega)
        have hM3 : ¬ (M ≤ κ2) := by omega
        have hM4 : ¬ ((M : Int) ≤ κ2) := by omega
        have hM5 : (decide ((M : Int) ≤ κ2)) = false := by simp; omega
        obtain ⟨x2, hx2⟩ : ∃ x2, x2 = at' lc κ2 := ⟨_, rfl⟩
        rw [← hx2] at c2
        have HX2 := Lib.hid hx2
        clear hx2 hκ1 hκ2
        by_cases hlt : x2 < x1
        · have hch : Child lc i κ2 := by
            have e1 := HK1.out
            have e2 := HK2.out
            have a1 := HX1.out
            have a2 := HX2.out
            refine ⟨.inr e2, by omega, fun j hj hjl => ?_⟩
            rcases hj with rfl | rfl
            · rw [← e1, ← a1, ← a2]; omega
            · rw [e2]; exact Int.le_refl _
          have hki : κ2 ≠ i := by have := HK1.out; have := HK2.out; omega
          have hik : i ≠ κ2 := hki.symm
          have fk := fz.out (off + κ2)
          have HCH := Lib.hid hch
          clear hch
          by_cases hle : xi ≤ x2
          · go_wp2_with fail
            refine wp_region_canon [0, 1, 2, 3, 4, 5, 6, 7, 8, 10, 11, 12, 9, 13, 14, 15] (by kernel_rfl) (by kernel_rfl) (fun K hK => ?_)
            simp only [List.map_cons, List.map_nil, List.getD_cons_succ, List.getD_cons_zero]
            go_wp2
            refine hK _ _ (by kernel_rfl) ?_
            clear hK K
            go_wp2
            refine wp_region_canon [0, 1, 2, 3, 4, 5, 6, 8, 9, 10, 7, 11, 12, 13] (by kernel_rfl) (by kernel_rfl) (fun K hK => ?_)
            simp only [List.map_cons, List.map_nil, List.getD_cons_succ, List.getD_cons_zero]
            go_wp2
            refine hK _ _ (by kernel_rfl) ?_
            clear hK K
            go_wp2
            go_ret
            exact ⟨rfl, fin (down_end lc i hdn (.inr ⟨κ2, HCH.out, by rw [← HXI.out, ← HX2.out]; exact hle⟩))⟩
          · go_wp2_with fail
            refine wp_region_canon [0, 1, 2, 3, 4, 5, 6, 7, 8, 10, 11, 12, 9, 13, 14, 15] (by kernel_rfl) (by kernel_rfl) (fun K hK => ?_)
            simp only [List.map_cons, List.map_nil, List.getD_cons_succ, List.getD_cons_zero]
            go_wp2
            refine hK _ _ (by kernel_rfl) ?_
            clear hK K
            go_wp2
            refine wp_region_canon [0, 1, 2, 3, 4, 5, 6, 8, 9, 10, 7, 11, 12, 13] (by kernel_rfl) (by kernel_rfl) (fun K hK => ?_)
            simp only [List.map_cons, List.map_nil, List.getD_cons_succ, List.getD_cons_zero]
            go_wp2
            refine hK _ _ (by kernel_rfl) ?_
            clear hK K
            go_wp2
            refine wp_region_canon [0, 1, 2, 3, 4, 5, 6, 8, 9, 10, 7, 11, 12, 13, 14, 15] (by kernel_rfl) (by kernel_rfl) (fun K hK => ?_)
            simp only [List.map_cons, List.map_nil, List.getD_cons_succ, List.getD_cons_zero]
            go_wp2
            refine hK _ _ (by kernel_rfl) ?_
            clear hK K
            go_wp2
            go_roundw
            case rel =>
              have hsw := down_swap lc i κ2 hdn hil HCH.out (by rw [← HXI.out, ← HX2.out]; omega)
              have h1 := (hsl.set1 i x2 hil).set1 κ2 xi (by rw [List.length_set]; exact HCH.out.2.1)
              refine ⟨κ2, swap lc i κ2, rfl, ?_, hsw, (swap_perm lc i κ2 hil HCH.out.2.1).trans hpm, ?_, .inr (by rw [← hlc]; exact HCH.out.2.1)⟩
              · unfold swap
                rw [← HXI.out, ← HX2.out]
                exact h1
              · exact ((hfr.setCell ⟨g, off + i, none⟩ _ (.inl rfl)).setCell ⟨g, off + κ2, none⟩ _ (.inl rfl)).drew.drew.drew
            case measure => have := HK1.out; have := HK2.out; simp [intOf]; omega
        · have hch : Child lc i κ1 := by
            have e1 := HK1.out
            have e2 := HK2.out
            have a1 := HX1.out
            have a2 := HX2.out
            refine ⟨.inl e1, by omega, fun j hj hjl => ?_⟩
            rcases hj with rfl | rfl
            · rw [e1]; exact Int.le_refl _
            · rw [← e2, ← a1, ← a2]; omega
          have hki : κ1 ≠ i := by have := HK1.out; have := HK2.out; omega
          have hik : i ≠ κ1 := hki.symm
          have fk := fz.out (off + κ1)
          have HCH := Lib.hid hch
          clear hch
          by_cases hle : xi ≤ x1
          · go_wp2_with fail
            refine wp_region_canon [0, 1, 2, 3, 4, 5, 6, 7, 8, 10, 11, 12, 9, 13, 14, 15] (by kernel_rfl) (by kernel_rfl) (fun K hK => ?_)
            simp only [List.map_cons, List.map_nil, List.getD_cons_succ, List.getD_cons_zero]
            go_wp2
            refine hK _ _ (by kernel_rfl) ?_
            clear hK K
            go_wp2
            refine wp_region_canon [0, 1, 2, 3, 4, 5, 6, 8, 9, 10, 7, 11, 12, 13] (by kernel_rfl) (by kernel_rfl) (fun K hK => ?_)
            simp only [List.map_cons, List.map_nil, List.getD_cons_succ, List.getD_cons_zero]
            go_wp2
            refine hK _ _ (by kernel_rfl) ?_
            clear hK K
            go_wp2
            go_ret
            exact ⟨rfl, fin (down_end lc i hdn (.inr ⟨κ1, HCH.out, by rw [← HXI.out, ← HX1.out]; exact hle⟩))⟩
          · go_wp2_with fail
            refine wp_region_canon [0, 1, 2, 3, 4, 5, 6, 7, 8, 10, 11, 12, 9, 13, 14, 15] (by kernel_rfl) (by kernel_rfl) (fun K hK => ?_)
            simp only [List.map_cons, List.map_nil, List.getD_cons_succ, List.getD_cons_zero]
            go_wp2
            refine hK _ _ (by kernel_rfl) ?_
            clear hK K
            go_wp2
            refine wp_region_canon [0, 1, 2, 3, 4, 5, 6, 8, 9, 10, 7, 11, 12, 13] (by kernel_rfl) (by kernel_rfl) (fun K hK => ?_)
            simp only [List.map_cons, List.map_nil, List.getD_cons_succ, List.getD_cons_zero]
            go_wp2
            refine hK _ _ (by kernel_rfl) ?_
            clear hK K
            go_wp2
            refine wp_region_canon [0, 1, 2, 3, 4, 5, 6, 8, 9, 10, 7, 11, 12, 13, 14, 15] (by kernel_rfl) (by kernel_rfl) (fun K hK => ?_)
            simp only [List.map_cons, List.map_nil, List.getD_cons_succ, List.getD_cons_zero]
            go_wp2
            refine hK _ _ (by kernel_rfl) ?_
            clear hK K
            go_wp2
            go_roundw
            case rel =>
              have hsw := down_swap lc i κ1 hdn hil HCH.out (by rw [← HXI.out, ← HX1.out]; omega)
              have h1 := (hsl.set1 i x1 hil).set1 κ1 xi (by rw [List.length_set]; exact HCH.out.2.1)
              refine ⟨κ1, swap lc i κ1, rfl, ?_, hsw, (swap_perm lc i κ1 hil HCH.out.2.1).trans hpm, ?_, .inr (by rw [← hlc]; exact HCH.out.2.1)⟩
              · unfold swap
                rw [← HXI.out, ← HX1.out]
                exact h1
              · exact ((hfr.setCell ⟨g, off + i, none⟩ _ (.inl rfl)).setCell ⟨g, off + κ1, none⟩ _ (.inl rfl)).drew.drew.drew
            case measure => have := HK1.out; have := HK2.out; simp [intOf]; omega
      · clear hκ1 hκ2
        have hch : Child lc i κ1 := by
          have e1 := HK1.out
          have e2 := HK2.out
          refine ⟨.inl e1, by omega, fun j hj hjl => ?_⟩
          rcases hj with rfl | rfl
          · rw [e1]; exact Int.le_refl _
          · omega
        have hki : κ1 ≠ i := by have := HK1.out; have := HK2.out; omega
        have hik : i ≠ κ1 := hki.symm
        have fk := fz.out (off + κ1)
        have HCH := Lib.hid hch
        clear hch
        by_cases hle : xi ≤ x1
        · go_wp2_with fail
          refine wp_region_canon [0, 1, 2, 3, 4, 5, 6, 7, 8, 10, 11, 12, 9, 13, 14, 15] (by kernel_rfl) (by kernel_rfl) (fun K hK => ?_)
          simp only [List.map_cons, List.map_nil, List.getD_cons_succ, List.getD_cons_zero]
          go_wp2
          refine hK _ _ (by kernel_rfl) ?_
          clear hK K
          go_wp2
          refine wp_region_canon [0, 1, 2, 3, 4, 5, 6, 8, 9, 10, 7, 11, 12, 13] (by kernel_rfl) (by kernel_rfl) (fun K hK => ?_)
          simp only [List.map_cons, List.map_nil, List.getD_cons_succ, List.getD_cons_zero]
          go_wp2
          refine hK _ _ (by kernel_rfl) ?_
          clear hK K
          go_wp2
          go_ret
          exact ⟨rfl, fin (down_end lc i hdn (.inr ⟨κ1, HCH.out, by rw [← HXI.out, ← HX1.out]; exact hle⟩))⟩
        · go_wp2_with fail
          refine wp_region_canon [0, 1, 2, 3, 4, 5, 6, 7, 8, 10, 11, 12, 9, 13, 14, 15] (by kernel_rfl) (by kernel_rfl) (fun K hK => ?_)
          simp only [List.map_cons, List.map_nil, List.getD_cons_succ, List.getD_cons_zero]
          go_wp2
          refine hK _ _ (by kernel_rfl) ?_
          clear hK K
          go_wp2
          refine wp_region_canon [0, 1, 2, 3, 4, 5, 6, 8, 9, 10, 7, 11, 12, 13] (by kernel_rfl) (by kernel_rfl) (fun K hK => ?_)
          simp only [List.map_cons, List.map_nil, List.getD_cons_succ, List.getD_cons_zero]
          go_wp2
          refine hK _ _ (by kernel_rfl) ?_
          clear hK K
          go_wp2
          refine wp_region_canon [0, 1, 2, 3, 4, 5, 6, 8, 9, 10, 7, 11, 12, 13, 14, 15] (by kernel_rfl) (by kernel_rfl) (fun K hK => ?_)
          simp only [List.map_cons, List.map_nil, List.getD_cons_succ, List.getD_cons_zero]
          go_wp2
          refine hK _ _ (by kernel_rfl) ?_
          clear hK K
          go_wp2
          go_roundw
          case rel =>
            have hsw := down_swap lc i κ1 hdn hil HCH.out (by rw [← HXI.out, ← HX1.out]; omega)
            have h1 := (hsl.set1 i x1 hil).set1 κ1 xi (by rw [List.length_set]; exact HCH.out.2.1)
            refine ⟨κ1, swap lc i κ1, rfl, ?_, hsw, (swap_perm lc i κ1 hil HCH.out.2.1).trans hpm, ?_, .inr (by rw [← hlc]; exact HCH.out.2.1)⟩
            · unfold swap
              rw [← HXI.out, ← HX1.out]
              exact h1
            · exact ((hfr.setCell ⟨g, off + i, none⟩ _ (.inl rfl)).setCell ⟨g, off + κ1, none⟩ _ (.inl rfl)).drew.drew.drew
          case measure => have := HK1.out; have := HK2.out; simp [intOf]; omega
end Go.Proofs.Ytalinhpdibdlkaa
