/- pantryref12.Pool: Ref, Put. Conditions: bounds on lengths; references between 0 and 1000000. -/
import Derived.Test.YtalinhpdibdlkaaAnR
namespace Go.Proofs.Ytalinhpdibdlkaa
open Go.RowKit
set_option linter.unusedSimpArgs false
set_option linter.unusedVariables false
/-- What a Ref of the document's gives: an anon, an error, the anons. -/
def rrefO (x : Int) (L : List A3) (id : Int) : A3 × Int × List A3 := match rget L id with
  | none => ((0, 0, 0), 7, L)
  | some a => if x < -a.1 ∨ 1000000 - a.1 < x then ((0, 0, 0), 2, L) else ((a.1 + x, a.2), 0, L.set (id - 1).toNat (a.1 + x, a.2))
def rputO (f s : Int) (L : List A3) (id : Int) : Int × List A3 := match rget L id with
  | none => (7, L)
  | some a => (0, L.set (id - 1).toNat (a.1, f, s))
theorem rget_some {L : List A3} {id : Int} {a : A3} (h : rget L id = some a) : ∃ j : Nat, id = (j : Int) + 1 ∧ L[j]? = some a ∧ a.1 ≠ 0 := by
  unfold rget at h
  split at h
  · obtain ⟨j, rfl⟩ : ∃ j : Nat, id = (j : Int) + 1 := ⟨(id - 1).toNat, by omega⟩
    rw [show ((j : Int) + 1 - 1).toNat = j by omega] at h
    cases hj : L[j]? with
    | none => rw [hj] at h; cases h
    | some b =>
      rw [hj] at h
      simp only [Option.bind_some] at h
      split at h
      · cases h
      · cases h; exact ⟨j, rfl, hj, by assumption⟩
  · cases h
section
variable {w : World} {b : Nat} {most : Int} {L : List A3} {S : Nat → Prop}
/-- A copy of the row takes the row's place. -/
theorem RP.copied {w1 : World} {v v' : Value} {L' : List A3} (h : RP w b most v L) (hS : S b) (hf : Fr (fun _ => False) w w1) (hs : Sl w1 50 3 v' (L'.flatMap a3s)) (ho : ∀ k, v'.ownBlock = some k → w.heap.size ≤ k) :
    RP (w1.setCell ⟨b, 1, none⟩ v') b most v' L' ∧ Fr S w (w1.setCell ⟨b, 1, none⟩ v') := by
  have hb := ob_lt h.blk
  refine ⟨⟨ob_setCell_same (h.keep hf).blk _, Sl.of hs (fun k hk => ob_setCell _ _ _ _ (fun e => by have := ho k hk; simp at e; omega))⟩, (hf.mono' (fun _ h => h.elim)).setCell _ _ (.inl hS)⟩
/-- One record of a new row is another. -/
theorem RP.record {g off n cap : Nat} {j : Nat} (h : RP w b most (.slice (some ⟨g, off, none⟩) n cap) L) (hj : j < L.length) (a : A3) (hgb : g ≠ b) :
    RP (w.setCells g (off + j * 3) (a3s a)) b most (.slice (some ⟨g, off, none⟩) n cap) (L.set j a) ∧ Fr (fun k => k = g) w (w.setCells g (off + j * 3) (a3s a)) :=
  ⟨⟨(fr_setCells _ _ w).keep (fun e => hgb e.symm) h.blk, Sl.recSet a3s_len h.row hj a⟩, fr_setCells _ _ w⟩
set_option maxRecDepth 100000 in
set_option maxHeartbeats 4000000 in
theorem rref_any (h0 : RPX b most L w S) (hl : L.length ≤ 5000) (hr : ∀ a ∈ L, 0 ≤ a.1 ∧ a.1 ≤ 1000000) (id x : Int) :
    Calls Try.prog 19 #[.pointer (some ⟨b, 0, none⟩), .int .i64 id, .int .i64 x] w fun e w' =>
      e = .returned (.tuple #[.agg (a3s (rrefO x L id).1).toArray, .int .i64 (rrefO x L id).2.1]) ∧ RPX b most (rrefO x L id).2.2 w' (fun k => S k ∨ w.heap.size ≤ k) ∧ Fr S w w' := by
  have h0' := h0
  obtain ⟨v, h, hSb, hSv⟩ := h0
  obtain ⟨w1, hw1⟩ : ∃ w1, w.alloc (.cells #[.int .i64 0, .int .i64 0, .int .i64 0] 50) = w1 := ⟨_, rfl⟩
  obtain ⟨ro, hro⟩ : ∃ ro, w.heap.size = ro := ⟨_, rfl⟩
  have hf1 : Fr (fun _ => False) w w1 := by rw [← hw1]; exact (Fr.refl _ w).alloc _
  have oo : ob w1 ro = some (.cells #[.int .i64 0, .int .i64 0, .int .i64 0] 50 (0, 0)) := by rw [← hw1, ← hro]; exact ob_new _ _
  have hro1 : w.heap.size ≤ ro := by omega
  have HRO := Lib.hid hro1
  have hbl := ob_lt h.blk
  have hbro : b ≠ ro := by omega
  have hg := rget_any (h.keep hf1) hl id
  obtain ⟨o, ho⟩ : ∃ o, rrefO x L id = o := ⟨_, rfl⟩
  rw [ho]
  have HO := Lib.hid ho
  clear ho hro1
  cases hgo : rget L id with
  | none =>
    have HE : Hid (o = ((0, 0, 0), 7, L)) := Lib.hid (by rw [← HO.out]; unfold rrefO; rw [hgo])
    rw [HE.out]
    rw [hgo] at hg
    simp only [Option.getD_none, Option.isSome_none, a3s] at hg ⊢
    clear hgo
    go_enter Try.func19, Try.ntmps19
    go_wp2_with fail
    clear hw1 hro
    refine hg.mono ?_
    rintro e w2 ⟨rfl, hf2⟩
    clear hg
    have oo2 := hf2.keep (fun h => h) oo
    have g0 := cell_of_ob oo2 0
    have g1 := cell_of_ob oo2 1
    have g2 := cell_of_ob oo2 2
    have z0 := frozen_of_ob oo2 0
    have z1 := frozen_of_ob oo2 1
    have z2 := frozen_of_ob oo2 2
    have so := ob_lt oo2
    have hf12 := hf1.step hf2 (fun _ h => h.elim)
    go_wp2_with fail
    have hfin := (((hf12.setCell ⟨ro, 0, none⟩ (.int .i64 0) (.inr HRO.out)).setCell ⟨ro, 1, none⟩ (.int .i64 0) (.inr HRO.out)).setCell ⟨ro, 2, none⟩ (.int .i64 0) (.inr HRO.out)).alloc (.cells #[.int .i64 0, .int .i64 0, .int .i64 0] 50)
    refine bodyPost_ret (v := .tuple #[.agg #[.int .i64 0, .int .i64 0, .int .i64 0], .int .i64 7]) (by simp [results, Try.results19, go_sem, *]) rfl ⟨rfl, ?_, ?_⟩
    · exact RPX.steady.wide (RPX.steady.keep h0' hfin) (fun k hk => .inl hk)
    · exact hfin.mono' (fun _ h => h.elim)
  | some a =>
    obtain ⟨j, rfl, hj, ha0⟩ := rget_some hgo
    have hra := hr a (List.mem_of_getElem? hj)
    obtain ⟨r, f, s⟩ := a
    dsimp only at hra ha0
    rw [hgo] at hg
    simp only [Option.getD_some, Option.isSome_some, a3s] at hg
    have hr0 := hra.1
    have hr1 := hra.2
    by_cases hout : x < -r ∨ 1000000 - r < x
    · have HE : Hid (o = ((0, 0, 0), 2, L)) := Lib.hid (by rw [← HO.out]; unfold rrefO; rw [hgo]; exact if_pos hout)
      rw [HE.out]
      have hbo : (decide (x < -r) = true) ∨ (decide (x < -r) = false ∧ decide (1000000 - r < x) = true) := by
        by_cases h1 : x < -r
        · exact .inl (by simp [h1])
        · exact .inr ⟨by simp; omega, by simp; omega⟩
      simp only [a3s]
      clear hgo hout hra ha0
      rcases hbo with hb1 | ⟨hb1, hb2⟩
      all_goals (
        go_enter Try.func19, Try.ntmps19
        go_wp2_with fail
        clear hw1 hro
        refine hg.mono ?_
        rintro e w2 ⟨rfl, hf2⟩
        clear hg
        have oo2 := hf2.keep (fun h => h) oo
        have g0 := cell_of_ob oo2 0
        have g1 := cell_of_ob oo2 1
        have g2 := cell_of_ob oo2 2
        have z0 := frozen_of_ob oo2 0
        have z1 := frozen_of_ob oo2 1
        have z2 := frozen_of_ob oo2 2
        have so := ob_lt oo2
        have hf12 := hf1.step hf2 (fun _ h => h.elim)
        go_wp2_with fail
        have hfin := (((hf12.setCell ⟨ro, 0, none⟩ (.int .i64 0) (.inr HRO.out)).setCell ⟨ro, 1, none⟩ (.int .i64 0) (.inr HRO.out)).setCell ⟨ro, 2, none⟩ (.int .i64 0) (.inr HRO.out)).alloc (.cells #[.int .i64 r, .int .i64 f, .int .i64 s] 50)
        refine bodyPost_ret (v := .tuple #[.agg #[.int .i64 0, .int .i64 0, .int .i64 0], .int .i64 2]) (by simp [results, Try.results19, go_sem, *]) rfl ⟨rfl, ?_, ?_⟩
        · exact RPX.steady.wide (RPX.steady.keep h0' hfin) (fun k hk => .inl hk)
        · exact hfin.mono' (fun _ h => h.elim))
    · have HE : Hid (o = ((r + x, f, s), 0, L.set j (r + x, f, s))) := Lib.hid (by rw [← HO.out]; unfold rrefO; rw [hgo]; simp only; rw [if_neg hout, show ((j : Int) + 1 - 1).toNat = j by omega])
      rw [HE.out]
      have hb1 : decide (x < -r) = false := by simp; omega
      have hb2 : decide (1000000 - r < x) = false := by simp; omega
      have hx0 : 0 ≤ r + x := by omega
      have hx1 : r + x ≤ 1000000 := by omega
      simp only [a3s]
      have HJ := Lib.hid hj
      have hj5 : j ≤ 5000 := by have := (List.getElem?_eq_some_iff.1 hj).1; omega
      clear hgo hout hra ha0 hj
      obtain ⟨A, N, C, rfl⟩ := h.row.shape
      have hN := Sl.recN a3s_len (by omega) h.row
      have HN := Lib.hid hN
      have hN5 : N ≤ 5000 := by omega
      obtain ⟨i0, hi, hz, hsz, hby⟩ := info_of' infoRA
      clear hN
      go_enter Try.func19, Try.ntmps19
      go_wp2_with fail
      clear hw1 hro
      refine hg.mono ?_
      rintro e w2 ⟨rfl, hf2⟩
      clear hg
      have hf12 := hf1.step hf2 (fun _ h => h.elim)
      have oo2 := hf2.keep (fun h => h) oo
      have h2 := h.keep hf12
      have c1 : w2.cell? ⟨b, 1, none⟩ = some (.slice A N C) := cell_of_ob h2.blk 1
      have z1 := frozen_of_ob h2.blk 1
      have hb2l := ob_lt h2.blk
      have so2 := ob_lt oo2
      obtain ⟨ba, hba⟩ : ∃ k, w2.heap.size = k := ⟨_, rfl⟩
      have HBA := Lib.hid hba
      have hwba : w.heap.size ≤ ba := by have := hf12.size; omega
      have hbba : b ≠ ba := by omega
      have hbb1 : b < ba := by omega
      have hbb2 : b < ba + 1 := by omega
      have hrr1 : ro < ba := by omega
      have hrr2 : ro < ba + 1 := by omega
      have hroba : ro ≠ ba := by omega
      go_upto_region 8 with (at_builtin; go_must (refine wpList_appsrc (v := .slice (some ⟨ba + 1, 0, none⟩) 0 0) (y := .slice A N C) rfl _ _ _ rfl Try.underlying69 hi hz hsz hby rfl (by decide) rfl (Sl.builtAt _ [] 0 _ (by simp [hba]) rfl (by decide)) rfl ((h2.row.alloc _).alloc _) (a3s_one L) (by simp only [sliceLen, maxLen]; omega) (by simp only [sliceLen]; omega) ?_; intro v3 w3 hs3 hf3 ho3 hl3; obtain ⟨A3, N3, C3, rfl⟩ := hs3.shape; have hf3w : Fr (fun _ => False) w2 w3 := ((((Fr.refl _ w2).alloc _).alloc _).step hf3 (fun k hk => .inr (by cases hk; show w2.heap.size ≤ ba + 1; omega))); have q1 := frozen_of_ob (h2.keep hf3w).blk 1; have q2 : w3.cell? ⟨b, 1, none⟩ = some (.slice A N C) := cell_of_ob (h2.keep hf3w).blk 1))
      have oa3 : ob w3 ba = some (.cells #[.int .i64 (r + x), .int .i64 f, .int .i64 s] 50 (0, 0)) := hf3.keep (fun e => by simp [Value.ownBlock] at e) (by rw [ob_alloc _ _ _ (by simp; omega), ob_newAt _ _ _ hba.symm])
      obtain ⟨w4, hw4⟩ : ∃ w4, w3.setCell ⟨b, 1, none⟩ (.slice A3 N3 C3) = w4 := ⟨_, rfl⟩
      rw [hw4]
      have hn3 : ∀ k, (Value.slice A3 N3 C3).ownBlock = some k → ba + 1 ≤ k := fun k hk => by
        rcases ho3 with h | ⟨q, h, hq⟩
        · rw [h] at hk; cases hk; exact Nat.le_refl _
        · rw [h] at hk; cases hk; simp at hq; omega
      have hf03 := hf12.step hf3w (fun _ h => h.elim)
      obtain ⟨g1, g2⟩ := h.copied hSb hf03 hs3 (fun k hk => by have := hn3 k hk; omega)
      rw [hw4] at g1 g2
      have hf34 : Fr (fun k => k = b) w3 w4 := by rw [← hw4]; exact (Fr.refl _ w3).setCell ⟨b, 1, none⟩ _ (.inl rfl)
      have oa4 := hf34.keep (fun e => hbba e.symm) oa3
      have oo4 := hf34.keep (fun e => hbro e.symm) (hf3w.keep (fun h => h) oo2)
      obtain ⟨g, off, n', cap', heq, hgl, hgz, hcs⟩ := Sl.recAt a3s_len (by omega) g1.row HJ.out
      cases heq
      have hgn := hn3 g rfl
      have hgb : g ≠ b := by omega
      have hga : g ≠ ba := by omega
      have hgr : g ≠ ro := by omega
      have HJL : Hid (j < L.length) := Lib.hid (List.getElem?_eq_some_iff.1 HJ.out).1
      have hN3 : N3 = L.length := Sl.recN a3s_len (by omega) g1.row
      have hjN : j < N3 := by have := HJL.out; omega
      have HN3 := Lib.hid hN3
      have x0 : w4.cell? ⟨g, off + j * 3, none⟩ = some (.int .i64 r) := hcs 0 _ rfl
      have x1 : w4.cell? ⟨g, off + j * 3 + 1, none⟩ = some (.int .i64 f) := hcs 1 _ rfl
      have x2 : w4.cell? ⟨g, off + j * 3 + 2, none⟩ = some (.int .i64 s) := hcs 2 _ rfl
      have y0 := hgz (off + j * 3)
      have y1 := hgz (off + j * 3 + 1)
      have y2 := hgz (off + j * 3 + 2)
      have e0 : w4.cell? ⟨b, 1, none⟩ = some (.slice (some ⟨g, off, none⟩) N3 C3) := cell_of_ob g1.blk 1
      have d0 := cell_of_ob oa4 0
      have d1 := cell_of_ob oa4 1
      have d2 := cell_of_ob oa4 2
      have u0 := cell_of_ob oo4 0
      have u1 := cell_of_ob oo4 1
      have u2 := cell_of_ob oo4 2
      have t0 := frozen_of_ob oo4 0
      have t1 := frozen_of_ob oo4 1
      have t2 := frozen_of_ob oo4 2
      obtain ⟨p1, p2⟩ := g1.record HJL.out (r + x, f, s) hgb
      have P1 := Lib.hid p1
      have hfA : Fr S w (w4.setCells g (off + j * 3) (a3s (r + x, f, s))) := g2.step p2 (fun k hk => .inr (by omega))
      have HFA := Lib.hid hfA
      have HSV := Lib.hid hSv
      have hws := hf03.size
      have hb34 := hbba
      clear hcs hgz hs3 hf3 ho3 hl3 hf3w hf34 oa3 q1 q2 g1 g2 p1 p2 hfA hSv hN3 oa4 oo4 hw4 hf03 h h2 hf12 oo2 oo hf1 hf2 c1 z1
      refine wp_region_canon [0, 1, 2, 4, 5, 3, 6, 7, 8] (by kernel_rfl) (by kernel_rfl) (fun K hK => ?_)
      simp only [List.map_cons, List.map_nil, List.getD_cons_succ, List.getD_cons_zero]
      go_wp2
      refine hK _ _ (by kernel_rfl) ?_
      clear hK K
      go_wp2_with fail
      have hfro : Fr (fun k => k = ro) (w4.setCells g (off + j * 3) (a3s (r + x, f, s))) (((((w4.setCells g (off + j * 3) (a3s (r + x, f, s))).setCell ⟨ro, 0, none⟩ (.int .i64 (r + x))).setCell ⟨ro, 1, none⟩ (.int .i64 f)).setCell ⟨ro, 2, none⟩ (.int .i64 s)).drew) :=
        ((((Fr.refl (fun k => k = ro) _).setCell ⟨ro, 0, none⟩ _ (.inl rfl)).setCell ⟨ro, 1, none⟩ _ (.inl rfl)).setCell ⟨ro, 2, none⟩ _ (.inl rfl)).drew
      have hfinR := P1.out.fr hfro hbro (fun k hk e => by cases hk; exact hgr e)
      have hfinF := HFA.out.step hfro (fun k hk => .inr (by rw [hk]; exact HRO.out))
      refine bodyPost_ret (v := .tuple #[.agg #[.int .i64 (r + x), .int .i64 f, .int .i64 s], .int .i64 0]) (by simp [results, Try.results19, go_sem, *]) rfl ⟨rfl, ⟨_, hfinR, .inl hSb, fun k hk => .inr ?_⟩, hfinF⟩
      cases hk; show w.heap.size ≤ g; omega
set_option maxRecDepth 100000 in
set_option maxHeartbeats 4000000 in
theorem rput_any (h0 : RPX b most L w S) (hl : L.length ≤ 5000) (id x y : Int) :
    Calls Try.prog 20 #[.pointer (some ⟨b, 0, none⟩), .int .i64 id, .int .i64 x, .int .i64 y] w fun e w' =>
      e = .returned (.int .i64 (rputO x y L id).1) ∧ RPX b most (rputO x y L id).2 w' (fun k => S k ∨ w.heap.size ≤ k) ∧ Fr S w w' := by
  have h0' := h0
  obtain ⟨v, h, hSb, hSv⟩ := h0
  have hbl := ob_lt h.blk
  have hg := rget_any h hl id
  obtain ⟨o, ho⟩ : ∃ o, rputO x y L id = o := ⟨_, rfl⟩
  rw [ho]
  have HO := Lib.hid ho
  clear ho
  cases hgo : rget L id with
  | none =>
    have HE : Hid (o = (7, L)) := Lib.hid (by rw [← HO.out]; unfold rputO; rw [hgo])
    rw [HE.out]
    rw [hgo] at hg
    simp only [Option.getD_none, Option.isSome_none, a3s] at hg
    clear hgo
    go_enter Try.func20, Try.ntmps20
    go_wp2_with fail
    refine hg.mono ?_
    rintro e w2 ⟨rfl, hf2⟩
    clear hg
    have hfin := hf2.alloc (.cells #[.int .i64 0, .int .i64 0, .int .i64 0] 50)
    go_wp2
    go_ret
    exact ⟨rfl, RPX.steady.wide (RPX.steady.keep h0' hfin) (fun k hk => .inl hk), hfin.mono' (fun _ h => h.elim)⟩
  | some a =>
    obtain ⟨j, rfl, hj, ha0⟩ := rget_some hgo
    obtain ⟨r, f, s⟩ := a
    rw [hgo] at hg
    simp only [Option.getD_some, Option.isSome_some, a3s] at hg
    have HE : Hid (o = (0, L.set j (r, x, y))) := Lib.hid (by rw [← HO.out]; unfold rputO; rw [hgo]; simp only; rw [show ((j : Int) + 1 - 1).toNat = j by omega])
    rw [HE.out]
    have HJ := Lib.hid hj
    have hj5 : j ≤ 5000 := by have := (List.getElem?_eq_some_iff.1 hj).1; omega
    clear hgo ha0 hj
    obtain ⟨A, N, C, rfl⟩ := h.row.shape
    have hN := Sl.recN a3s_len (by omega) h.row
    have HN := Lib.hid hN
    have hN5 : N ≤ 5000 := by omega
    obtain ⟨i0, hi, hz, hsz, hby⟩ := info_of' infoRA
    clear hN
    go_enter Try.func20, Try.ntmps20
    go_wp2_with fail
    refine hg.mono ?_
    rintro e w2 ⟨rfl, hf12⟩
    clear hg
    have h2 := h.keep hf12
    have c1 : w2.cell? ⟨b, 1, none⟩ = some (.slice A N C) := cell_of_ob h2.blk 1
    have z1 := frozen_of_ob h2.blk 1
    have hb2l := ob_lt h2.blk
    obtain ⟨ba, hba⟩ : ∃ k, w2.heap.size = k := ⟨_, rfl⟩
    have HBA := Lib.hid hba
    have hwba : w.heap.size ≤ ba := by have := hf12.size; omega
    have hbba : b ≠ ba := by omega
    have hbb1 : b < ba := by omega
    have hbb2 : b < ba + 1 := by omega
    go_upto_region 6 with (at_builtin; go_must (refine wpList_appsrc (v := .slice (some ⟨ba + 1, 0, none⟩) 0 0) (y := .slice A N C) rfl _ _ _ rfl Try.underlying69 hi hz hsz hby rfl (by decide) rfl (Sl.builtAt _ [] 0 _ (by simp [hba]) rfl (by decide)) rfl ((h2.row.alloc _).alloc _) (a3s_one L) (by simp only [sliceLen, maxLen]; omega) (by simp only [sliceLen]; omega) ?_; intro v3 w3 hs3 hf3 ho3 hl3; obtain ⟨A3, N3, C3, rfl⟩ := hs3.shape; have hf3w : Fr (fun _ => False) w2 w3 := ((((Fr.refl _ w2).alloc _).alloc _).step hf3 (fun k hk => .inr (by cases hk; show w2.heap.size ≤ ba + 1; omega))); have q1 := frozen_of_ob (h2.keep hf3w).blk 1; have q2 : w3.cell? ⟨b, 1, none⟩ = some (.slice A N C) := cell_of_ob (h2.keep hf3w).blk 1))
    have oa3 : ob w3 ba = some (.cells #[.int .i64 r, .int .i64 x, .int .i64 y] 50 (0, 0)) := hf3.keep (fun e => by simp [Value.ownBlock] at e) (by rw [ob_alloc _ _ _ (by simp; omega), ob_newAt _ _ _ hba.symm])
    obtain ⟨w4, hw4⟩ : ∃ w4, w3.setCell ⟨b, 1, none⟩ (.slice A3 N3 C3) = w4 := ⟨_, rfl⟩
    rw [hw4]
    have hn3 : ∀ k, (Value.slice A3 N3 C3).ownBlock = some k → ba + 1 ≤ k := fun k hk => by
      rcases ho3 with h | ⟨q, h, hq⟩
      · rw [h] at hk; cases hk; exact Nat.le_refl _
      · rw [h] at hk; cases hk; simp at hq; omega
    have hf03 := hf12.step hf3w (fun _ h => h.elim)
    obtain ⟨g1, g2⟩ := h.copied hSb hf03 hs3 (fun k hk => by have := hn3 k hk; omega)
    rw [hw4] at g1 g2
    have hf34 : Fr (fun k => k = b) w3 w4 := by rw [← hw4]; exact (Fr.refl _ w3).setCell ⟨b, 1, none⟩ _ (.inl rfl)
    have oa4 := hf34.keep (fun e => hbba e.symm) oa3
    obtain ⟨g, off, n', cap', heq, hgl, hgz, hcs⟩ := Sl.recAt a3s_len (by omega) g1.row HJ.out
    cases heq
    have hgn := hn3 g rfl
    have hgb : g ≠ b := by omega
    have hga : g ≠ ba := by omega
    have HJL : Hid (j < L.length) := Lib.hid (List.getElem?_eq_some_iff.1 HJ.out).1
    have hN3 : N3 = L.length := Sl.recN a3s_len (by omega) g1.row
    have hjN : j < N3 := by have := HJL.out; omega
    have HN3 := Lib.hid hN3
    have x0 : w4.cell? ⟨g, off + j * 3, none⟩ = some (.int .i64 r) := hcs 0 _ rfl
    have x1 : w4.cell? ⟨g, off + j * 3 + 1, none⟩ = some (.int .i64 f) := hcs 1 _ rfl
    have x2 : w4.cell? ⟨g, off + j * 3 + 2, none⟩ = some (.int .i64 s) := hcs 2 _ rfl
    have y0 := hgz (off + j * 3)
    have y1 := hgz (off + j * 3 + 1)
    have y2 := hgz (off + j * 3 + 2)
    have e0 : w4.cell? ⟨b, 1, none⟩ = some (.slice (some ⟨g, off, none⟩) N3 C3) := cell_of_ob g1.blk 1
    have d0 := cell_of_ob oa4 0
    have d1 := cell_of_ob oa4 1
    have d2 := cell_of_ob oa4 2
    obtain ⟨p1, p2⟩ := g1.record HJL.out (r, x, y) hgb
    have P1 := Lib.hid p1
    have hfA : Fr S w (w4.setCells g (off + j * 3) (a3s (r, x, y))) := g2.step p2 (fun k hk => .inr (by omega))
    have HFA := Lib.hid hfA
    clear hcs hgz hs3 hf3 ho3 hl3 hf3w hf34 oa3 q1 q2 g1 g2 p1 p2 hfA hSv hN3 oa4 hw4 hf03 h h2 hf12 c1 z1
    refine wp_region_canon [0, 1, 2, 4, 5, 3, 6, 7, 8] (by kernel_rfl) (by kernel_rfl) (fun K hK => ?_)
    simp only [List.map_cons, List.map_nil, List.getD_cons_succ, List.getD_cons_zero]
    go_wp2
    refine hK _ _ (by kernel_rfl) ?_
    clear hK K
    go_wp2
    go_ret
    refine ⟨rfl, ⟨_, P1.out.keep (Fr.refl _ _).drew, .inl hSb, fun k hk => .inr ?_⟩, HFA.out.drew⟩
    cases hk; show w.heap.size ≤ g; omega
end
end Go.Proofs.Ytalinhpdibdlkaa
