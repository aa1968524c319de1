/- vmap.Map.Fork. Conditions: at most 390 entries, right. -/
import Derived.Test.YtopglbkcciigbaaVmD
import Derived.Test.YtopglbkcciigbaaCanonF
namespace Go.Proofs.Ytopglbkcciigbaa
open Go.RowKit
set_option linter.unusedSimpArgs false
set_option linter.unusedVariables false
attribute [local go_sem] Oper.semAt_some
theorem fork_step {l : List Ent} {t : Nat} {x : Ent} (hx : l[t]? = some x) : forkL (l.take (t + 1)) = forkL (l.take t) ++ if x.inh = 2 then [] else [wiE false x] := by
  unfold forkL
  rw [List.take_add_one, hx]
  simp only [Option.toList_some, List.map_append, List.filter_append, List.map_cons, List.map_nil, List.filter_cons, List.filter_nil]
  by_cases h : x.inh = 2
  · simp [h, wiE]
  · simp [h, wiE]
theorem fork_take (l : List Ent) (t : Nat) : (forkL (l.take t)).length ≤ t := Nat.le_trans (fork_len _) (by rw [List.length_take]; omega)
set_option maxRecDepth 100000 in
set_option maxHeartbeats 4000000 in
theorem vfork_any {w : World} {b : Nat} {v : Value} {l : List Ent} (h : MT w b v l) (hl : l.length ≤ 390) (hr : rightB 0 l = true) :
    Calls Try.prog 20 #[.pointer (some ⟨b, 0, none⟩)] w fun e w' => ∃ bx vx, e = .returned (.pointer (some ⟨bx, 0, none⟩)) ∧ MT w' bx vx (forkV l) ∧ w.heap.size ≤ bx ∧ (∀ k, vx.ownBlock = some k → w.heap.size ≤ k) ∧ Fr (fun _ => False) w w' := by
  obtain ⟨A, N, C, hv⟩ := h.sl.shape
  subst hv
  have hN : N = l.length := SE.elen h.sl
  have hN4 : N ≤ 390 := by omega
  have hmd := made_any h
  have hnw := vnew_any w
  obtain ⟨i0, hi0, hz0, hzs, hzb⟩ := info_of zeroEnt
  have HN := Lib.hid hN
  have HH := Lib.hid h
  have HRT := Lib.hid hr
  clear hN h hr hl
  go_enter Try.func20, Try.ntmps20
  go_wp2_with fail
  refine hmd.mono ?_
  rintro e w2 ⟨rfl, hw⟩; rw [hw]; clear hw w2 hmd
  go_wp2_with fail
  refine hnw.mono ?_
  rintro e w1 ⟨rfl, hx1, hf1⟩
  clear hnw
  obtain ⟨bx, hbx⟩ : ∃ bx, w.heap.size = bx := ⟨_, rfl⟩
  rw [hbx] at hx1 ⊢
  have h1 := HH.out.keep hf1
  have c1 : w1.cell? ⟨b, 0, none⟩ = some (.slice A N C) := cell_of_ob h1.blk 0
  have s1 := h1.lt
  have HBX := Lib.hid hbx
  have HF1 := Lib.hid hf1
  clear hbx h1 hf1
  go_wp2_with fail
  go_loopw [15] (fun si wr => ∃ (t : Nat) (A2 : Option Addr) (N2 C2 : Nat), t ≤ N ∧ si = .int .i64 t ∧ MT wr bx (.slice A2 N2 C2) (forkL (l.take t)) ∧ Hid (∀ k, (Value.slice A2 N2 C2).ownBlock = some k → bx ≤ k) ∧ Hid (Fr (fun _ => False) w wr)) (fun si _ => N - (intOf si).toNat)
  case atStart => exact ⟨0, none, 0, 0, Nat.zero_le _, rfl, hx1, Lib.hid (fun k hk => by cases hk), HF1⟩
  case round =>
    obtain ⟨t, A2, N2, C2, ht, rfl, hx, HO, HF⟩ := hrel
    clear hx1 c1 s1
    by_cases hlt : t < N
    · obtain ⟨x, hxt⟩ : ∃ x, l[t]? = some x := ⟨_, List.getElem?_eq_getElem (by have := HN.out; omega)⟩
      obtain ⟨g, off, n', cap', heq, hgl, -, -, hat⟩ := SE.entry (HH.out.keep HF.out).sl hxt
      cases heq
      obtain ⟨d0, d1, d2, d3, d4, d5, d6, d7, d8, d9⟩ := hat
      have HST := Lib.hid (fork_step hxt)
      obtain ⟨W1, hW1⟩ : ∃ W1, wr.alloc (.cells #[.int .i64 x.s, .int .i64 x.e, .int .i64 x.f, .int .i64 x.o, .bool x.sh, .int .i64 x.pr, .int .i64 x.mx, .int .i64 x.inh, .int .i64 x.adv, .bool false] 28) = W1 := ⟨_, rfl⟩
      have hfa : Fr (fun _ => False) wr W1 := by rw [← hW1]; exact (Fr.refl _ _).alloc _
      have HFA := Lib.hid hfa
      have HX := Lib.hid hx
      have HFW := Lib.hid (Fr.also HF.out hfa)
      have HW1 := Lib.hid hW1
      clear hxt hW1 hx hfa
      by_cases hin : x.inh = 2
      · have HI := Lib.hid hin
        have hb : (x.inh != 2) = false := by simp [hin]
        clear hin
        go_wp2
        go_roundw
        case rel => exact ⟨t + 1, A2, N2, C2, by omega, by go_num, by rw [HST.out, if_pos HI.out, List.append_nil]; have := HX.out.keep HFA.out; rw [← HW1.out] at this; exact this, HO, by have := HFW; rw [← HW1.out] at this; exact this⟩
        case measure => simp [intOf]; omega
      · have HI := Lib.hid hin
        have hN2 : N2 ≤ 390 := by have := SE.elen HX.out.sl; have := fork_take l t; simp only [sliceLen] at *; omega
        go_upto_region 9 with fail
        rw [HW1.out]
        have hx1 := HX.out.keep HFA.out
        have ob1 : ob W1 wr.heap.size = some (.cells #[.int .i64 x.s, .int .i64 x.e, .int .i64 x.f, .int .i64 x.o, .bool x.sh, .int .i64 x.pr, .int .i64 x.mx, .int .i64 x.inh, .int .i64 x.adv, .bool false] 28 (0, 0)) := by rw [← HW1.out]; exact ob_new _ _
        have c0 : W1.cell? ⟨bx, 0, none⟩ = some (.slice A2 N2 C2) := cell_of_ob hx1.blk 0
        have z0 := frozen_of_ob hx1.blk 0
        have s0 := hx1.lt
        have e1 := fun i => cell_of_ob ob1 i
        have q0 : W1.cell? ⟨wr.heap.size, 0, none⟩ = some (.int .i64 x.s) := e1 0
        have q1 : W1.cell? ⟨wr.heap.size, 1, none⟩ = some (.int .i64 x.e) := e1 1
        have q2 : W1.cell? ⟨wr.heap.size, 2, none⟩ = some (.int .i64 x.f) := e1 2
        have q3 : W1.cell? ⟨wr.heap.size, 3, none⟩ = some (.int .i64 x.o) := e1 3
        have q4 : W1.cell? ⟨wr.heap.size, 4, none⟩ = some (.bool x.sh) := e1 4
        have q5 : W1.cell? ⟨wr.heap.size, 5, none⟩ = some (.int .i64 x.pr) := e1 5
        have q6 : W1.cell? ⟨wr.heap.size, 6, none⟩ = some (.int .i64 x.mx) := e1 6
        have q7 : W1.cell? ⟨wr.heap.size, 7, none⟩ = some (.int .i64 x.inh) := e1 7
        have q8 : W1.cell? ⟨wr.heap.size, 8, none⟩ = some (.int .i64 x.adv) := e1 8
        have q9 : W1.cell? ⟨wr.heap.size, 9, none⟩ = some (.bool false) := e1 9
        have hsx : SE W1 (.slice A2 N2 C2) (forkL (l.take t)) := hx1.sl
        have HX1 := Lib.hid hx1
        clear e1 ob1 hx1 d0 d1 d2 d3 d4 d5 d6 d7 d8 d9 hin
        refine wp_region_canon [0, 1, 2, 3, 4, 5, 6, 7, 8, 9, 10] (by kernel_rfl) (by kernel_rfl) (fun K hK => ?_)
        simp only [List.map_cons, List.map_nil, List.getD_cons_succ, List.getD_cons_zero]
        go_wp2_with (at_builtin; go_must (refine wpList_app (v := .slice A2 N2 C2) rfl _ _ _ rfl Try.underlying31 hi0 hz0 hzs hzb rfl (by decide) rfl (Sl.alloc (Sl.of (w1 := W1.drew) hsx (fun _ _ => rfl)) _) _ 1 1 [.int .i64 x.s, .int .i64 x.e, .int .i64 x.f, .int .i64 x.o, .bool x.sh, .int .i64 x.pr, .int .i64 x.mx, .int .i64 x.inh, .int .i64 x.adv, .bool false] rfl (ob_newAt _ _ _ (by simp)) rfl (by simp [Value.oneCell']) (by decide) (by simp only [maxLen, sliceLen] at *; omega) (by simp only [sliceLen] at *; omega) ?_; intro v3 w4 hs3 hf3 ho3 hl3; obtain ⟨A3, N3, C3, rfl⟩ := hs3.shape; have hf4 : Fr (fun k => (Value.slice A2 N2 C2).ownBlock = some k) W1 w4 := ((Fr.refl _ W1).drew.alloc _).step hf3 (fun k hk => .inl hk); have b4 := hf4.keep (fun hk => HX1.out.off _ hk rfl) HX1.out.blk; have c4 : w4.cell? ⟨bx, 0, none⟩ = some (.slice A2 N2 C2) := cell_of_ob b4 0; have z4 := frozen_of_ob b4 0))
        refine hK _ _ (by kernel_rfl) ?_
        clear hK K
        have HB4 := Lib.hid b4
        have HE := Lib.hid (show forkL (l.take (t + 1)) = forkL (l.take t) ++ [wiE false x] by rw [HST.out, if_neg HI.out])
        have hs4 : SE w4 (.slice A3 N3 C3) (forkL (l.take (t + 1))) := by
          rw [HE.out]
          show Sl w4 28 10 _ ((forkL (l.take t) ++ [wiE false x]).flatMap ent)
          rw [List.flatMap_append]
          exact hs3
        have hoff : ∀ k, (Value.slice A3 N3 C3).ownBlock = some k → k ≠ bx ∧ bx ≤ k := fun k hk => by
          rcases ho3 with h | ⟨q, h, hq⟩
          · rw [h] at hk
            exact ⟨HX1.out.off k hk, HO.out k hk⟩
          · rw [h] at hk; cases hk
            have := HX1.out.lt
            simp at hq
            exact ⟨by omega, by omega⟩
        have HM5 : Hid (MT (w4.setCell ⟨bx, 0, none⟩ (.slice A3 N3 C3)) bx (.slice A3 N3 C3) (forkL (l.take (t + 1)))) := Lib.hid ⟨by rw [ob_setCell_same b4]; rfl, Sl.of hs4 (fun k hk => ob_setCell _ _ _ _ (hoff k hk).1), fun k hk => (hoff k hk).1⟩
        have HO5 := Lib.hid (show ∀ k, (Value.slice A3 N3 C3).ownBlock = some k → bx ≤ k from fun k hk => (hoff k hk).2)
        have HF5 := Lib.hid ((HFW.out.step hf4 (fun k hk => .inr (by have := HO.out k hk; have := HBX.out; omega))).setCell ⟨bx, 0, none⟩ (.slice A3 N3 C3) (.inr (by have := HBX.out; show w.heap.size ≤ bx; omega)))
        clear hs4 hoff b4 hf4 hf3 hs3 ho3 hl3 hsx c0 z0 c4 z4 q0 q1 q2 q3 q4 q5 q6 q7 q8 q9
        go_wp2
        go_roundw
        case rel => exact ⟨t + 1, A3, N3, C3, by omega, by go_num, HM5.out, HO5, HF5⟩
        case measure => simp [intOf]; omega
    · obtain rfl : t = N := by omega
      have hall : l.take t = l := by rw [HN.out, List.take_length]
      rw [hall] at hx
      have c0 : wr.cell? ⟨bx, 0, none⟩ = some (.slice A2 N2 C2) := cell_of_ob hx.blk 0
      have s0 := hx.lt
      have hme := merge_any (Sl.rd hx.sl) (by have := fork_len l; have := HN.out; omega) (right_fork HRT.out)
      have HX := Lib.hid hx
      clear hall hx
      go_wp2_with fail
      refine hme.mono ?_
      rintro e w8 ⟨v8, rfl, hs8, hf8, ho8⟩
      obtain ⟨A8, N8, C8, rfl⟩ := hs8.shape
      clear hme c0 s0
      have h8 := HX.out.keep hf8
      have c8 : w8.cell? ⟨bx, 0, none⟩ = some (.slice A2 N2 C2) := cell_of_ob h8.blk 0
      have z8 := frozen_of_ob h8.blk 0
      obtain ⟨v9, hm9, -, hf9⟩ := HX.out.set hf8 hs8 ho8
      have hbl : ob (w8.setCell ⟨bx, 0, none⟩ (.slice A8 N8 C8)) bx = some (.cells #[.slice A8 N8 C8, .bool true] 52 (0, 0)) := by rw [ob_setCell_same h8.blk]; rfl
      obtain rfl : v9 = .slice A8 N8 C8 := by
        have := hm9.blk
        rw [hbl] at this
        simp at this
        exact this.symm
      have HM := Lib.hid hm9
      have HF9 := Lib.hid (HF.out.step hf9 (fun k hk => .inr (by have := HBX.out; omega)))
      have HOW := Lib.hid (show ∀ k, (Value.slice A8 N8 C8).ownBlock = some k → w.heap.size ≤ k from fun k hk => by have := ho8 k hk; have := HF.out.size; omega)
      clear h8 hm9 hf9 hbl hs8 hf8 ho8
      go_wp2
      go_ret
      exact ⟨bx, _, rfl, HM.out, by have := HBX.out; omega, HOW.out, HF9.out⟩
end Go.Proofs.Ytopglbkcciigbaa
