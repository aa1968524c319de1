/- pantryref15.Insert. Conditions: a right list of at most 400 entries. -/
import Derived.Test.YtjgjgkcboigocaaEnRefsC
namespace Go.Proofs.Ytjgjgkcboigocaa
open Go.RowKit
set_option linter.unusedSimpArgs false
set_option linter.unusedVariables false
set_option maxRecDepth 100000 in
set_option maxHeartbeats 8000000 in
theorem rinsert_any {w : World} {v : Value} {l : List Ent} (h0 : Rd w 10 v (l.flatMap ent)) (hl : l.length ≤ 400) (hr : rightB 0 l = true) (x : Ent) :
    Calls Try.prog 29 #[v, .agg #[.int .i64 x.s, .int .i64 x.e, .int .i64 x.f, .int .i64 x.o, .bool x.sh, .int .i64 x.pr, .int .i64 x.mx, .int .i64 x.inh, .int .i64 x.adv, .bool x.wi]] w fun e w' => ∃ v', e = .returned (.tuple #[v', .bool (insOk l x)]) ∧ SE w' v' (insL l x) ∧ Fr (fun _ => False) w w' := by
  obtain ⟨A, N, C, rfl⟩ := h0.shape
  have h := h0
  have hN : N = l.length := h.elen
  rw [← hN] at hl
  have HN := Lib.hid hN
  have HR := Lib.hid hr
  obtain ⟨i0, hi0, hz0, hzs, hzb⟩ := info_of zeroEnt
  have h1l := one_ents l
  obtain ⟨gb, hgb⟩ : ∃ gb, gb = goodB x := ⟨_, rfl⟩
  obtain ⟨ok, hok⟩ : ∃ ok, ok = insOk l x := ⟨_, rfl⟩
  obtain ⟨m, hm⟩ : ∃ m, m = insL l x := ⟨_, rfl⟩
  have hok2 : ok = (gb && freeB l x) := by rw [hok, hgb]; rfl
  have hm2 : m = if ok then insAt l x else l := by rw [hm, hok]; rfl
  have hgood := fun W => rgood_any x W
  rw [← hok, ← hm]
  simp only [← hgb] at hgood
  have HOK := Lib.hid hok2
  have HM := Lib.hid hm2
  have HGB := Lib.hid hgb
  have HG := Lib.hid hgood
  clear hN hr h0 hgb hok hm hok2 hm2 hgood
  have hsN : sliceLen (.slice A N C) = N := rfl
  go_enter Try.func29, Try.ntmps29
  go_upto_region 2 with (at_builtin; go_must (refine wpList_apprd (y := .slice A N C) (v := .slice (some ⟨w.heap.size + 1, 0, none⟩) 0 0) rfl _ _ _ rfl Try.underlying22 hi0 hz0 hzs hzb rfl (by decide) rfl (Sl.builtAt (w.alloc (.cells #[.int .i64 x.s, .int .i64 x.e, .int .i64 x.f, .int .i64 x.o, .bool x.sh, .int .i64 x.pr, .int .i64 x.mx, .int .i64 x.inh, .int .i64 x.adv, .bool x.wi] 27)) [] 0 (w.heap.size + 1) (by simp) rfl (by decide)) rfl (h.of (((Fr.refl (fun _ => False) w).alloc _).alloc _) (fun _ h => h.elim)) h1l (by simp only [maxLen, sliceLen] at *; omega) (by simp only [sliceLen] at *; omega) ?_; intro vs W1 h2 h3 h4 h5))
  have hfa : Fr (fun _ => False) w ((w.alloc (.cells #[.int .i64 x.s, .int .i64 x.e, .int .i64 x.f, .int .i64 x.o, .bool x.sh, .int .i64 x.pr, .int .i64 x.mx, .int .i64 x.inh, .int .i64 x.adv, .bool x.wi] 27)).alloc (.cells #[] 27)) := ((Fr.refl _ w).alloc _).alloc _
  have hfW1 : Fr (fun _ => False) w W1 := hfa.step h3 (fun k hk => .inr (by have h0 : w.heap.size + 1 = k := Option.some.inj hk; omega))
  have hsame : SE W1 vs l := by simpa using h2
  have oq : ob W1 w.heap.size = some (.cells #[.int .i64 x.s, .int .i64 x.e, .int .i64 x.f, .int .i64 x.o, .bool x.sh, .int .i64 x.pr, .int .i64 x.mx, .int .i64 x.inh, .int .i64 x.adv, .bool x.wi] 27 (0, 0)) := h3.keep (fun hk => by have h0 : w.heap.size + 1 = w.heap.size := Option.some.inj hk; omega) (by rw [ob_alloc _ _ _ (by simp), ob_new])
  obtain ⟨B, M, D, rfl⟩ := hsame.shape
  have HSAME := Lib.hid hsame
  have OQ := Lib.hid oq
  clear h2 h3 h4 h5 hfa hsame
  have keyq : ∀ W, Fr (fun _ => False) W1 W → (W.cell? ⟨w.heap.size, 0, none⟩ = some (.int .i64 x.s) ∧ W.cell? ⟨w.heap.size, 1, none⟩ = some (.int .i64 x.e) ∧ W.cell? ⟨w.heap.size, 2, none⟩ = some (.int .i64 x.f) ∧ W.cell? ⟨w.heap.size, 3, none⟩ = some (.int .i64 x.o) ∧ W.cell? ⟨w.heap.size, 4, none⟩ = some (.bool x.sh) ∧ W.cell? ⟨w.heap.size, 5, none⟩ = some (.int .i64 x.pr) ∧ W.cell? ⟨w.heap.size, 6, none⟩ = some (.int .i64 x.mx) ∧ W.cell? ⟨w.heap.size, 7, none⟩ = some (.int .i64 x.inh) ∧ W.cell? ⟨w.heap.size, 8, none⟩ = some (.int .i64 x.adv) ∧ W.cell? ⟨w.heap.size, 9, none⟩ = some (.bool x.wi)) ∧ w.heap.size < W.heap.size := fun W hW => by
    have o := hW.keep (fun h => h) OQ.out
    exact ⟨⟨cell_of_ob o 0, cell_of_ob o 1, cell_of_ob o 2, cell_of_ob o 3, cell_of_ob o 4, cell_of_ob o 5, cell_of_ob o 6, cell_of_ob o 7, cell_of_ob o 8, cell_of_ob o 9⟩, ob_lt o⟩
  obtain ⟨⟨q0, q1, q2, q3, q4, q5, q6, q7, q8, q9⟩, sq⟩ := keyq W1 (Fr.refl _ _)
  have KEYQ := Lib.hid keyq
  clear keyq oq
  go_wp2_with fail
  refine (HG.out _).mono ?_
  rintro e W2 ⟨rfl, hf2⟩
  have hf02 := hfW1.also hf2
  clear q0 q1 q2 q3 q4 q5 q6 q7 q8 q9 sq
  cases gb with
  | false =>
    obtain rfl : ok = false := by rw [HOK.out]; rfl
    obtain rfl : m = l := by rw [HM.out]; rfl
    go_wp2
    go_ret2
    exact ⟨_, rfl, Sl.fr HSAME.out hf2 (fun _ _ h => h), hf02⟩
  | true =>
  have hse := (goodE_of HGB.out.symm).se
  obtain ⟨ix, hix⟩ : ∃ ix, ix = fidx l x.s := ⟨_, rfl⟩
  have hixN : ix ≤ N := by rw [hix, HN.out]; exact fidx_le l x.s
  have HIX := Lib.hid hix
  clear hix
  go_wp2_with fail
  go_loopw [7, 8, 20] (fun o d v wr => ∃ (i : Nat) (dn : Bool) (out : List Ent), i ≤ N ∧ v = .int .i64 i ∧ d = .bool dn ∧ SE wr o out ∧ out.length ≤ i + 1 ∧ Hid (InsInv l x i dn out) ∧ (∀ k, o.ownBlock = some k → W2.heap.size ≤ k) ∧ Fr (fun _ => False) W2 wr) (fun _ _ v _ => N - (intOf v).toNat)
  case atStart => exact ⟨0, false, [], by omega, rfl, rfl, Sl.nil _ _ _, by simp, Lib.hid (.inl ⟨rfl, Nat.zero_le _, rfl⟩), (fun k hk => by cases hk), Fr.refl _ _⟩
  case round =>
    obtain ⟨i, dn, out, hi, rfl, rfl, hs, hol, HI, hown, hf⟩ := hrel
    have hoL : sliceLen u7 ≤ 500 := by have := SE.elen hs; omega
    obtain ⟨⟨q0, q1, q2, q3, q4, q5, q6, q7, q8, q9⟩, sq⟩ := KEYQ.out wr (hf2.also hf)
    by_cases hlt : i < N
    · obtain ⟨y, hy⟩ : ∃ y, l[i]? = some y := ⟨_, List.getElem?_eq_getElem (by have := HN.out; omega)⟩
      obtain ⟨g, off, n', cap', heq, hgl, -, c0, c1, c2, c3, c4, c5, c6, c7, c8, c9⟩ := (h.of (hf02.also hf) (fun _ h => h.elim)).entry hy
      cases heq
      obtain ⟨g1, g2, g3, -, -, -, -⟩ := goodE_of (rightB_mem HR.out y (List.mem_of_getElem? hy)).1
      have sq1 : w.heap.size < wr.heap.size + 1 := by omega
      have sq2 : w.heap.size < wr.heap.size + 1 + 1 := by omega
      have HY := Lib.hid hy
      clear hy
      rcases HI.out with ⟨hd, hii, ho⟩ | ⟨hd, hii, hfr, ho⟩
      · subst hd
        by_cases hlti : i < ix
        · -- before its place
          have hye : y.e ≤ x.s := fidx_below l x.s i y (by rw [← HIX.out]; exact hlti) HY.out
          have hb1 : y.s < x.e := by omega
          have hb2 : ¬ x.s < y.e := by omega
          have hb3 : ¬ x.e ≤ y.s := by omega
          have HO := Lib.hid ho
          clear ho hii
          go_upto_region 14 with fail
          go_wp2_with (at_builtin; go_must (refine wpList_app (v := u7) rfl _ _ _ rfl Try.underlying22 hi0 hz0 hzs hzb rfl (by decide) rfl (Sl.alloc (Sl.alloc hs _) _) _ 1 1 [.int .i64 y.s, .int .i64 y.e, .int .i64 y.f, .int .i64 y.o, .bool y.sh, .int .i64 y.pr, .int .i64 y.mx, .int .i64 y.inh, .int .i64 y.adv, .bool y.wi] rfl (ob_newAt _ _ _ (by simp)) rfl (by simp [Value.oneCell']) (by decide) (by simp only [maxLen] at *; omega) (by omega) ?_; intro v4 w4 hs4 hf4 ho4 hl4))
          obtain ⟨k1, k2, k3⟩ := app_fin hs4 hf (((Fr.refl _ wr).alloc _).alloc _) hf4 ho4 hown
          go_wp2
          go_roundw
          case rel => exact ⟨i + 1, false, out ++ [y], by omega, by go_num, rfl, k1, by simp; omega, Lib.hid (.inl ⟨rfl, by rw [← HIX.out]; omega, by rw [HO.out, List.take_add_one, HY.out]; rfl⟩), k2, k3⟩
          case measure => simp [intOf]; omega
        · have hie : i = ix := by rw [← HIX.out] at hii; omega
          have hyx : x.s < y.e := fidx_at l x.s y (by rw [← HIX.out, ← hie]; exact HY.out)
          have hfb : freeB l x = decide (x.e ≤ y.s) := by unfold freeB; rw [← HIX.out, ← hie, HY.out]
          have HFB := Lib.hid hfb
          have HO := Lib.hid ho
          have HIE := Lib.hid hie
          clear ho hii hfb hie
          by_cases hov : y.s < x.e
          · -- it goes over it
            obtain rfl : ok = false := by rw [HOK.out, HFB.out, decide_eq_false (by omega)]; rfl
            obtain rfl : m = l := by rw [HM.out]; rfl
            go_wp2
            go_ret2
            exact ⟨_, rfl, Sl.fr (Sl.fr HSAME.out hf2 (fun _ _ h => h)) (hf.alloc _) (fun _ _ h => h), (hf02.also hf).alloc _⟩
          · -- here is its place
            have hb3 : x.e ≤ y.s := by omega
            go_upto_region 14 with (at_builtin; go_must (refine wpList_app (v := u7) rfl _ _ _ rfl Try.underlying22 hi0 hz0 hzs hzb rfl (by decide) rfl (Sl.alloc (Sl.alloc hs _) _) _ 1 1 [.int .i64 x.s, .int .i64 x.e, .int .i64 x.f, .int .i64 x.o, .bool x.sh, .int .i64 x.pr, .int .i64 x.mx, .int .i64 x.inh, .int .i64 x.adv, .bool x.wi] rfl (ob_newAt _ _ _ (by simp)) rfl (by simp [Value.oneCell']) (by decide) (by simp only [maxLen] at *; omega) (by omega) ?_; intro v4 w4 hs4 hf4 ho4 hl4))
            obtain ⟨k1, k2, k3⟩ := app_fin hs4 hf (((Fr.refl _ wr).alloc _).alloc _) hf4 ho4 hown
            have o4 : ob w4 wr.heap.size = some (.cells #[.int .i64 y.s, .int .i64 y.e, .int .i64 y.f, .int .i64 y.o, .bool y.sh, .int .i64 y.pr, .int .i64 y.mx, .int .i64 y.inh, .int .i64 y.adv, .bool y.wi] 27 (0, 0)) := hf4.keep (fun hk => by have := Sl.lt hs hk; omega) (by rw [ob_alloc _ _ _ (by simp), ob_new])
            obtain ⟨d0, d1, d2, d3, d4, d5, d6, d7, d8, d9⟩ : (w4.cell? ⟨wr.heap.size, 0, none⟩ = some (.int .i64 y.s) ∧ w4.cell? ⟨wr.heap.size, 1, none⟩ = some (.int .i64 y.e) ∧ w4.cell? ⟨wr.heap.size, 2, none⟩ = some (.int .i64 y.f) ∧ w4.cell? ⟨wr.heap.size, 3, none⟩ = some (.int .i64 y.o) ∧ w4.cell? ⟨wr.heap.size, 4, none⟩ = some (.bool y.sh) ∧ w4.cell? ⟨wr.heap.size, 5, none⟩ = some (.int .i64 y.pr) ∧ w4.cell? ⟨wr.heap.size, 6, none⟩ = some (.int .i64 y.mx) ∧ w4.cell? ⟨wr.heap.size, 7, none⟩ = some (.int .i64 y.inh) ∧ w4.cell? ⟨wr.heap.size, 8, none⟩ = some (.int .i64 y.adv) ∧ w4.cell? ⟨wr.heap.size, 9, none⟩ = some (.bool y.wi)) := ⟨cell_of_ob o4 0, cell_of_ob o4 1, cell_of_ob o4 2, cell_of_ob o4 3, cell_of_ob o4 4, cell_of_ob o4 5, cell_of_ob o4 6, cell_of_ob o4 7, cell_of_ob o4 8, cell_of_ob o4 9⟩
            have sd := ob_lt o4
            have sd1 : wr.heap.size < w4.heap.size + 1 := by omega
            have hl4' : sliceLen v4 ≤ 501 := by omega
            have K1 := Lib.hid k1
            clear q0 q1 q2 q3 q4 q5 q6 q7 q8 q9 sq sq1 sq2 c0 c1 c2 c3 c4 c5 c6 c7 c8 c9 o4
            go_wp2_with (at_builtin; go_must (refine wpList_app (v := v4) rfl _ _ _ rfl Try.underlying22 hi0 hz0 hzs hzb rfl (by decide) rfl (Sl.alloc k1 _) _ 1 1 [.int .i64 y.s, .int .i64 y.e, .int .i64 y.f, .int .i64 y.o, .bool y.sh, .int .i64 y.pr, .int .i64 y.mx, .int .i64 y.inh, .int .i64 y.adv, .bool y.wi] rfl (ob_newAt _ _ _ (by simp)) rfl (by simp [Value.oneCell']) (by decide) (by simp only [maxLen] at *; omega) (by omega) ?_; intro v5 w5 hs5 hf5 ho5 hl5))
            obtain ⟨j1, j2, j3⟩ := app_fin hs5 k3 ((Fr.refl _ w4).alloc _) hf5 ho5 k2
            go_wp2
            go_roundw
            case rel =>
              refine ⟨i + 1, true, out ++ [x] ++ [y], by omega, by go_num, rfl, j1, ?_, Lib.hid (.inr ⟨rfl, by rw [← HIX.out]; have := HIE.out; omega, by rw [HFB.out, decide_eq_true hb3], ?_⟩), j2, j3⟩
              · have h1 : out.length ≤ i := by rw [HO.out, List.length_take]; omega
                simp; omega
              · have hie := HIE.out
                rw [List.take_add_one, insAt_get (by rw [← HIX.out]; omega) HY.out]
                rw [show i + 1 = fidx l x.s + 1 by rw [← HIX.out, hie], insAt_take, HO.out, ← HIX.out, hie]
                rfl
            case measure => simp [intOf]; omega
      · subst hd
        have hys : x.e ≤ y.s := high_after HR.out hfr hii HY.out
        have hb1 : ¬ y.s < x.e := by omega
        have HII := Lib.hid hii
        have HFR := Lib.hid hfr
        have HO := Lib.hid ho
        clear ho hii hfr
        go_upto_region 14 with fail
        go_wp2_with (at_builtin; go_must (refine wpList_app (v := u7) rfl _ _ _ rfl Try.underlying22 hi0 hz0 hzs hzb rfl (by decide) rfl (Sl.alloc (Sl.alloc hs _) _) _ 1 1 [.int .i64 y.s, .int .i64 y.e, .int .i64 y.f, .int .i64 y.o, .bool y.sh, .int .i64 y.pr, .int .i64 y.mx, .int .i64 y.inh, .int .i64 y.adv, .bool y.wi] rfl (ob_newAt _ _ _ (by simp)) rfl (by simp [Value.oneCell']) (by decide) (by simp only [maxLen] at *; omega) (by omega) ?_; intro v4 w4 hs4 hf4 ho4 hl4))
        obtain ⟨k1, k2, k3⟩ := app_fin hs4 hf (((Fr.refl _ wr).alloc _).alloc _) hf4 ho4 hown
        go_wp2
        go_roundw
        case rel =>
          refine ⟨i + 1, true, out ++ [y], by omega, by go_num, rfl, k1, by simp; omega, Lib.hid (.inr ⟨rfl, by have := HII.out; omega, HFR.out, ?_⟩), k2, k3⟩
          rw [List.take_add_one, insAt_get (by have := HII.out; omega) HY.out, ← HO.out]; rfl
        case measure => simp [intOf]; omega
    · obtain rfl : i = N := by omega
      rcases HI.out with ⟨hd, hii, ho⟩ | ⟨hd, hii, hfr, ho⟩
      · subst hd
        have hie : i = ix := by rw [← HIX.out] at hii; omega
        have hfb : freeB l x = true := by
          unfold freeB
          rw [← HIX.out, ← hie, List.getElem?_eq_none (by rw [HN.out]; exact Nat.le_refl _)]
        obtain rfl : ok = true := by rw [HOK.out, hfb]; rfl
        have hm1 : m = out ++ [x] := by
          rw [HM.out, if_pos rfl, ho]
          unfold insAt
          rw [← HIX.out, ← hie, List.drop_of_length_le (by rw [HN.out]; exact Nat.le_refl _)]
        have HM1 := Lib.hid hm1
        clear ho hii hie hfb hm1
        go_upto_region 17 with fail
        go_wp2_with (at_builtin; go_must (refine wpList_app (v := u7) rfl _ _ _ rfl Try.underlying22 hi0 hz0 hzs hzb rfl (by decide) rfl (Sl.alloc hs _) _ 1 1 [.int .i64 x.s, .int .i64 x.e, .int .i64 x.f, .int .i64 x.o, .bool x.sh, .int .i64 x.pr, .int .i64 x.mx, .int .i64 x.inh, .int .i64 x.adv, .bool x.wi] rfl (ob_newAt _ _ _ (by simp)) rfl (by simp [Value.oneCell']) (by decide) (by simp only [maxLen] at *; omega) (by omega) ?_; intro v4 w4 hs4 hf4 ho4 hl4))
        obtain ⟨k1, k2, k3⟩ := app_fin hs4 hf ((Fr.refl _ wr).alloc _) hf4 ho4 hown
        go_wp2
        go_ret2
        exact ⟨_, rfl, by rw [HM1.out]; exact k1, hf02.also k3⟩
      · subst hd
        obtain rfl : ok = true := by rw [HOK.out, hfr]; rfl
        have hm1 : m = out := by
          rw [HM.out, if_pos rfl, ho, List.take_of_length_le (by rw [insAt_len, HN.out]; exact Nat.le_refl _)]
        have HM1 := Lib.hid hm1
        clear ho hii hfr hm1
        go_wp2
        go_ret2
        exact ⟨_, rfl, by rw [HM1.out]; exact hs, hf02.also hf⟩
end Go.Proofs.Ytjgjgkcboigocaa
