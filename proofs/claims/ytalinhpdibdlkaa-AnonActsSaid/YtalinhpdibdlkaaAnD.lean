/- anon.Pool: change. Conditions: bounds on lengths. -/
import Derived.Test.YtalinhpdibdlkaaAnC
namespace Go.Proofs.Ytalinhpdibdlkaa
open Go.RowKit
set_option linter.unusedSimpArgs false
set_option linter.unusedVariables false
/-- What a change of one anon gives. -/
def ChOut (res : A3 → Int × A3) (free : List Int) (l : List (Int × A3)) (id : Int) (x : A3) (er : Int) (free' : List Int) (l' : List (Int × A3)) : Prop :=
  match alGet l id with
  | none => x = (0, 0, 0) ∧ er = 7 ∧ free' = free ∧ l' = l
  | some a => if (res a).1 ≠ 0 then x = (0, 0, 0) ∧ er = (res a).1 ∧ free' = free ∧ l' = l
    else x = (res a).2 ∧ er = 0 ∧ (if (res a).2.1 = 0 then free'.Perm (free ++ [id]) ∧ l' = alDel (alSet l id (res a).2) id else free' = free ∧ l' = alSet l id (res a).2)
section
variable {Pr : Nat → Prop} {W1 w w1 : World} {b m : Nat} {most last : Int} {free : List Int} {l : List (Int × A3)}
set_option maxRecDepth 100000 in
set_option maxHeartbeats 2000000 in
theorem change_any (h : PoolX Pr W1 w b m most last free l) (hf : free.length ≤ 100000) (id : Int) (f : FuncId) (cap : Array Value) (res : A3 → Int × A3) (hcf : ∀ args W, (callFunc f args).run Try.prog W = .ok (.enter f args) W)
    (hres : ∀ W (a : A3) (ba : Nat), alGet l id = some a → Fr (fun _ => False) w W → w.heap.size ≤ ba → ob W ba = some (.cells #[.int .i64 a.1, .int .i64 a.2.1, .int .i64 a.2.2] 32 (0, 0)) →
      Calls Try.prog f (#[.pointer (some ⟨ba, 0, none⟩)] ++ cap) W fun e W' => e = .returned (.int .i64 (res a).1) ∧ ob W' ba = some (.cells #[.int .i64 (res a).2.1, .int .i64 (res a).2.2.1, .int .i64 (res a).2.2.2] 32 (0, 0)) ∧ Fr (fun k => k = ba) W W') :
    Calls Try.prog 28 #[.pointer (some ⟨b, 0, none⟩), .int .i64 id, .func (.func f) #[] cap] w fun e w' =>
      ∃ x er, e = .returned (.tuple #[a3 x, .int .i64 er]) ∧ ∃ free' l', ChOut res free l id x er free' l' ∧ PoolX Pr W1 w' b m most last free' l' := by
  obtain ⟨fv, hT, hown, hfr, hlt⟩ := _root_.id h
  have hb := hT.lt
  have hml := hT.mlt
  have hb1 : b < w.heap.size + 1 := by omega
  have hml1 : m < w.heap.size + 1 := by omega
  have hbm := hT.bm
  have hfr0 : Fr (fun _ => False) w (w.alloc (.cells #[.int .i64 0, .int .i64 0, .int .i64 0] 32)) := (Fr.refl _ _).alloc _
  have hT0 := hT.fr hfr0 (fun _ _ h => h)
  have c2 : w.cell? ⟨b, 2, none⟩ = some (.map (some m)) := cell_of_ob hT.blk 2
  obtain ⟨r, hr⟩ : ∃ r, r = (alGet l id).getD (0, 0, 0) := ⟨_, rfl⟩
  obtain ⟨ok, hok⟩ : ∃ ok, ok = (alGet l id).isSome := ⟨_, rfl⟩
  have Hr := Lib.hid hr
  have Hok := Lib.hid hok
  clear hr hok
  go_enter Try.func28, Try.ntmps28
  go_wp2_with fail
  refine (made_any hT0).mono ?_
  rintro e w1 ⟨rfl, rfl⟩
  go_upto_region 4 with (at_lookup; go_must (refine wpList_look2 rfl _ _ _ rfl rfl id rfl key_ik Try.underlying60 (0, 0, 0) zeroA3 (hT0.all.of rfl) r ok Hr.out.symm Hok.out.symm ?_; simp only [a3]))
  obtain ⟨W, hW⟩ : ∃ W, W = (w.alloc (.cells #[.int .i64 0, .int .i64 0, .int .i64 0] 32)).alloc (.cells #[.int .i64 r.1, .int .i64 r.2.1, .int .i64 r.2.2] 32) := ⟨_, rfl⟩
  rw [← hW]
  have hfW : Fr (fun _ => False) w W := by rw [hW]; exact ((Fr.refl _ _).alloc _).alloc _
  obtain ⟨ro, hro⟩ : ∃ ro, ro = w.heap.size := ⟨_, rfl⟩
  obtain ⟨ba, hba⟩ : ∃ ba, ba = w.heap.size + 1 := ⟨_, rfl⟩
  have oo : ob W ro = some (.cells #[.int .i64 0, .int .i64 0, .int .i64 0] 32 (0, 0)) := by
    rw [hW, hro, ob_alloc _ _ _ (by simp only [World.size_alloc]; omega), ob_new]
  have oa : ob W ba = some (.cells #[.int .i64 r.1, .int .i64 r.2.1, .int .i64 r.2.2] 32 (0, 0)) := by
    rw [hW, hba, ob_newAt _ _ _ (by simp)]
  rw [← hba, ← hro]
  have hrb : ro ≠ ba := by omega
  have hroW : w.heap.size ≤ ro := by omega
  have hbaW : w.heap.size ≤ ba := by omega
  have hX := h.keep hfW
  have hTW := hT.fr hfW (fun _ _ h => h)
  have fo : ∀ i, W.frozen? ⟨ro, i, none⟩ = false := fun i => frozen_of_ob oo i
  have o0 : W.cell? ⟨ro, 0, none⟩ = some (.int .i64 0) := cell_of_ob oo 0
  have o1 : W.cell? ⟨ro, 1, none⟩ = some (.int .i64 0) := cell_of_ob oo 1
  have o2 : W.cell? ⟨ro, 2, none⟩ = some (.int .i64 0) := cell_of_ob oo 2
  have so := ob_lt oo
  clear hW c2 hb1 hml1 hT0 hro hba
  cases ok
  case false =>
    have hnone : alGet l id = none := by have := Hok.out; cases hg : alGet l id with | none => rfl | some a => rw [hg] at this; cases this
    have f0 := fo 0
    have f1 := fo 1
    have f2 := fo 2
    have HN := Lib.hid hnone
    clear fo hnone
    go_wp2_with fail
    refine bodyPost_ret (v := .tuple #[a3 (0, 0, 0), .int .i64 7]) (by simp [results, Try.results28, go_sem, a3, *]) rfl ⟨(0, 0, 0), 7, rfl, free, l, ?_, ?_⟩
    · unfold ChOut; rw [HN.out]; exact ⟨rfl, rfl, rfl, rfl⟩
    · exact h.keep (((hfW.setCell ⟨ro, 0, none⟩ _ (.inr hroW)).setCell ⟨ro, 1, none⟩ _ (.inr hroW)).setCell ⟨ro, 2, none⟩ _ (.inr hroW))
  case true =>
    have hsome : alGet l id = some r := by have h1 := Hok.out; have h2 := Hr.out; cases hg : alGet l id with | none => rw [hg] at h1; cases h1 | some a => rw [hg] at h2; rw [h2]; rfl
    have hcall := hres W r ba hsome hfW hbaW oa
    have HS := Lib.hid hsome
    clear hsome
    obtain ⟨er, her⟩ : ∃ er, er = (res r).1 := ⟨_, rfl⟩
    obtain ⟨r', hr'⟩ : ∃ r', r' = (res r).2 := ⟨_, rfl⟩
    rw [← her, ← hr'] at hcall
    have HER := Lib.hid her
    have HR' := Lib.hid hr'
    have FO := Lib.hid fo
    clear her hr' fo
    have hcf1 := hcf (#[.pointer (some ⟨ba, 0, none⟩)] ++ cap) W
    have oo2 := oo
    go_wp2_with fail
    refine hcall.mono ?_
    rintro e w3 ⟨rfl, oa3, hf3⟩
    have oo3 := hf3.keep hrb oo
    have hf03 : Fr (fun _ => False) w w3 := hfW.step hf3 (fun k hk => .inr (by rw [hk]; exact hbaW))
    have hT3 := hT.fr hf03 (fun _ _ h => h)
    have g0 : w3.cell? ⟨ro, 0, none⟩ = some (.int .i64 0) := cell_of_ob oo3 0
    have g1 : w3.cell? ⟨ro, 1, none⟩ = some (.int .i64 0) := cell_of_ob oo3 1
    have g2 : w3.cell? ⟨ro, 2, none⟩ = some (.int .i64 0) := cell_of_ob oo3 2
    have gf0 := frozen_of_ob oo3 0
    have gf1 := frozen_of_ob oo3 1
    have gf2 := frozen_of_ob oo3 2
    have so3 := ob_lt oo3
    have sa3 := ob_lt oa3
    have hb3 := hT3.lt
    have d2 : w3.cell? ⟨b, 2, none⟩ = some (.map (some m)) := cell_of_ob hT3.blk 2
    have q0 : w3.cell? ⟨ba, 0, none⟩ = some (.int .i64 r'.1) := cell_of_ob oa3 0
    have q1 : w3.cell? ⟨ba, 1, none⟩ = some (.int .i64 r'.2.1) := cell_of_ob oa3 1
    have q2 : w3.cell? ⟨ba, 2, none⟩ = some (.int .i64 r'.2.2) := cell_of_ob oa3 2
    clear o0 o1 o2 hcall hcf1 hcf hres
    by_cases he : er = 0
    · have HE := Lib.hid he
      subst he
      go_wp2_with fail
      refine wp_region_canon [0, 1, 2, 4, 3, 5, 6] (by kernel_rfl) (by kernel_rfl) (fun K hK => ?_)
      simp only [List.map_cons, List.map_nil, List.getD_cons_succ, List.getD_cons_zero]
      go_wp2_with (at_mapUpdate; go_must (refine wpList_upd rfl _ _ _ _ rfl rfl id rfl r' rfl key_ik Try.underlying60 (hT3.all.of rfl) ?_; intro ob1 hm4))
      refine hK _ _ (by kernel_rfl) ?_
      clear hK K
      obtain ⟨w4, hw4⟩ : ∃ w4, w4 = putOb w3.drew m ob1 := ⟨_, rfl⟩
      have hf34 : Fr (fun k => k = m) w3 w4 := by rw [hw4]; exact ((Fr.refl _ _).drew).putOb _ _ (.inl rfl)
      rw [← hw4] at hm4
      rw [← hw4]
      have hrm : ro ≠ m := by omega
      have ham : ba ≠ m := by omega
      have oo4 := hf34.keep hrm oo3
      have oa4 := hf34.keep ham oa3
      have hblk4 := hf34.keep hbm hT3.blk
      have hfs4 := hT3.frees.fr hf34 (fun k hk e => hT.fm (by rw [hk, e]))
      have hf04 : Fr (fun k => k = m) w w4 := (hf03.mono' (fun _ h => h.elim)).step hf34 (fun k hk => .inl hk)
      have g0 : w4.cell? ⟨ro, 0, none⟩ = some (.int .i64 0) := cell_of_ob oo4 0
      have g1 : w4.cell? ⟨ro, 1, none⟩ = some (.int .i64 0) := cell_of_ob oo4 1
      have g2 : w4.cell? ⟨ro, 2, none⟩ = some (.int .i64 0) := cell_of_ob oo4 2
      have gf0 := frozen_of_ob oo4 0
      have gf1 := frozen_of_ob oo4 1
      have gf2 := frozen_of_ob oo4 2
      have so4 := ob_lt oo4
      have sa4 := ob_lt oa4
      have hb4 := ob_lt hblk4
      have d2 : w4.cell? ⟨b, 2, none⟩ = some (.map (some m)) := cell_of_ob hblk4 2
      have q0 : w4.cell? ⟨ba, 0, none⟩ = some (.int .i64 r'.1) := cell_of_ob oa4 0
      have q1 : w4.cell? ⟨ba, 1, none⟩ = some (.int .i64 r'.2.1) := cell_of_ob oa4 1
      have q2 : w4.cell? ⟨ba, 2, none⟩ = some (.int .i64 r'.2.2) := cell_of_ob oa4 2
      clear hw4
      obtain ⟨x1, x2, x3⟩ := r'
      dsimp only at q0 q1 q2 hm4 ⊢
      by_cases hz : x1 = 0
      · subst hz
        go_upto_region 12 with (at_delete; go_must (refine wpList_del rfl _ _ _ _ rfl rfl id rfl key_ik Try.underlying60 hm4 ?_; intro ob2 hm5))
        have hf45 : Fr (fun k => k = m) w4 (putOb w4 m ob2) := (Fr.refl _ _).putOb _ _ (.inl rfl)
        obtain ⟨w5, hw5⟩ : ∃ w5, w5 = putOb w4 m ob2 := ⟨_, rfl⟩
        rw [← hw5] at hm5 hf45
        rw [← hw5]
        have oo5 := hf45.keep hrm oo4
        have oa5 := hf45.keep ham oa4
        have hblk5 := hf45.keep hbm hblk4
        have hfs5 := hfs4.fr hf45 (fun k hk e => hT.fm (by rw [hk, e]))
        have hb5 := ob_lt hblk5
        have hf05 : Fr (fun k => k = m) w w5 := hf04.step hf45 (fun k hk => .inl hk)
        clear hw5 g0 g1 g2 gf0 gf1 gf2 q0 q1 q2 d2
        go_wp2_with fail
        refine (push_any hblk5 hfs5 hT.heap hf hT.fb id).mono ?_
        rintro e w6 ⟨rfl, fv', free', hb6, hs6, hh6, hp6, hf6, ho6⟩
        have hrf : ¬ (ro = b ∨ fv.ownBlock = some ro) := fun hk => by
          rcases hk with hk | hk
          · omega
          · have := hT.frees.lt hk; omega
        have haf : ¬ (ba = b ∨ fv.ownBlock = some ba) := fun hk => by
          rcases hk with hk | hk
          · omega
          · have := hT.frees.lt hk; omega
        have hmf : ¬ (m = b ∨ fv.ownBlock = some m) := fun hk => by
          rcases hk with hk | hk
          · exact hbm hk.symm
          · exact hT.fm hk
        have oo6 := hf6.keep hrf oo5
        have oa6 := hf6.keep haf oa5
        have hm6 := hm5.of (hf6.block m hm5.lt hmf)
        have g0 : w6.cell? ⟨ro, 0, none⟩ = some (.int .i64 0) := cell_of_ob oo6 0
        have g1 : w6.cell? ⟨ro, 1, none⟩ = some (.int .i64 0) := cell_of_ob oo6 1
        have g2 : w6.cell? ⟨ro, 2, none⟩ = some (.int .i64 0) := cell_of_ob oo6 2
        have gf0 := frozen_of_ob oo6 0
        have gf1 := frozen_of_ob oo6 1
        have gf2 := frozen_of_ob oo6 2
        have so6 := ob_lt oo6
        have sa6 := ob_lt oa6
        have q0 : w6.cell? ⟨ba, 0, none⟩ = some (.int .i64 0) := cell_of_ob oa6 0
        have q1 : w6.cell? ⟨ba, 1, none⟩ = some (.int .i64 x2) := cell_of_ob oa6 1
        have q2 : w6.cell? ⟨ba, 2, none⟩ = some (.int .i64 x3) := cell_of_ob oa6 2
        go_wp2_with fail
        have hro6 : Fr (fun k => k = ro) w6 (((w6.setCell ⟨ro, 0, none⟩ (.int .i64 0)).setCell ⟨ro, 1, none⟩ (.int .i64 x2)).setCell ⟨ro, 2, none⟩ (.int .i64 x3)) := (((Fr.refl (fun k => k = ro) w6).setCell ⟨ro, 0, none⟩ _ (.inl rfl)).setCell ⟨ro, 1, none⟩ _ (.inl rfl)).setCell ⟨ro, 2, none⟩ _ (.inl rfl)
        have hbro : b ≠ ro := by omega
        have hoq : ∀ q, fv'.ownBlock = some q → q ≠ ro := fun q hq => by
          have hs5 := ob_lt oo5
          rcases ho6 q hq with h | h
          · have := hT.frees.lt h; omega
          · omega
        refine bodyPost_ret (v := .tuple #[a3 (0, x2, x3), .int .i64 0]) (by simp [results, Try.results28, go_sem, a3, *]) rfl ⟨(0, x2, x3), 0, rfl, free', _, ?_, .turn hT hown hfr hlt (fv' := fv') ⟨hro6.keep hbro hb6, hm6.of (hro6.block m hm6.lt (fun e => hrm e.symm)), hs6.fr hro6 (fun k hk => hoq k hk), hh6⟩ ?_ (fun q hq => (ho6 q hq).imp_right (fun h => by have := hf05.size; omega))⟩
        · unfold ChOut
          rw [HS.out]
          dsimp only
          rw [if_neg (by rw [← HER.out]; simp), ← HR'.out]
          exact ⟨rfl, rfl, by rw [if_pos rfl]; exact ⟨hp6, rfl⟩⟩
        · exact ((hf05.mono' (S2 := poolS b m fv) (fun k hk => .inr (.inl hk))).step hf6 (fun k hk => .inl (by rcases hk with hk | hk; exact .inl hk; exact .inr (.inr hk)))).step hro6 (fun k hk => .inr (by omega))
      · go_wp2_with fail
        have hro4 : Fr (fun k => k = ro) w4 (((w4.setCell ⟨ro, 0, none⟩ (.int .i64 x1)).setCell ⟨ro, 1, none⟩ (.int .i64 x2)).setCell ⟨ro, 2, none⟩ (.int .i64 x3)) := (((Fr.refl (fun k => k = ro) w4).setCell ⟨ro, 0, none⟩ _ (.inl rfl)).setCell ⟨ro, 1, none⟩ _ (.inl rfl)).setCell ⟨ro, 2, none⟩ _ (.inl rfl)
        have hbro : b ≠ ro := by omega
        refine bodyPost_ret (v := .tuple #[a3 (x1, x2, x3), .int .i64 0]) (by simp [results, Try.results28, go_sem, a3, *]) rfl ⟨x1, x2, x3, 0, rfl, free, _, ?_, .turn hT hown hfr hlt (fv' := fv) ⟨hro4.keep hbro hblk4, hm4.of (hro4.block m hm4.lt (fun e => hrm e.symm)), hfs4.fr hro4 (fun k hk e => by have := hT.frees.lt hk; omega), hT.heap⟩ ?_ (fun q hq => .inl hq)⟩
        · unfold ChOut
          rw [HS.out]
          dsimp only
          rw [if_neg (by rw [← HER.out]; simp), ← HR'.out]
          exact ⟨rfl, rfl, by rw [if_neg hz]; exact ⟨rfl, rfl⟩⟩
        · exact (hf04.mono' (S2 := poolS b m fv) (fun k hk => .inr (.inl hk))).step hro4 (fun k hk => .inr (by omega))
    · have hne : (er != 0) = true := by simpa using he
      have HNE := Lib.hid he
      clear he
      go_wp2_with fail
      refine bodyPost_ret (v := .tuple #[a3 (0, 0, 0), .int .i64 er]) (by simp [results, Try.results28, go_sem, a3, *]) rfl ⟨(0, 0, 0), er, rfl, free, l, ?_, ?_⟩
      · unfold ChOut; rw [HS.out]; dsimp only; rw [← HER.out, if_pos HNE.out]; exact ⟨rfl, rfl, rfl, rfl⟩
      · exact h.keep (((hf03.setCell ⟨ro, 0, none⟩ _ (.inr hroW)).setCell ⟨ro, 1, none⟩ _ (.inr hroW)).setCell ⟨ro, 2, none⟩ _ (.inr hroW))
end
end Go.Proofs.Ytalinhpdibdlkaa
