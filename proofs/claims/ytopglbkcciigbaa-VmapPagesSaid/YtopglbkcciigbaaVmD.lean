/- vmap.Map: all, and Protect, Inherit, Advise, Wire by it. Conditions: at most 390 entries, right. -/
import Derived.Test.YtopglbkcciigbaaVmC
import Derived.Test.YtopglbkcciigbaaEnCovP
namespace Go.Proofs.Ytopglbkcciigbaa
open Go.RowKit
set_option linter.unusedSimpArgs false
set_option linter.unusedVariables false
attribute [local go_sem] Oper.semAt_some
theorem pre_split (lo hi : Int) (f : Ent → Ent) : ∀ {c : List Ent} {last : Int}, rightB last c = true → lo ≤ last → (c.filter (inB lo hi)).map f ++ c.filter (fun x => !inB lo hi x) = c.map fun x => if inB lo hi x then f x else x
  | [], _, _, _ => rfl
  | x :: c, last, h, hlo => by
    rw [rightB_cons] at h
    have hse := (goodE_of h.1).se
    by_cases hin : inB lo hi x = true
    · have ih := pre_split lo hi f h.2.2 (by omega)
      rw [List.filter_cons, if_pos hin, List.filter_cons, if_neg (by rw [hin]; simp), List.map_cons, List.map_cons, if_pos hin, ← ih]
      rfl
    · have hxe : hi < x.e := by
        refine Decidable.byContradiction fun hc => hin ?_
        unfold inB; rw [decide_eq_true (show lo ≤ x.s by omega), decide_eq_true (show x.e ≤ hi by omega)]; rfl
      have hall : ∀ y ∈ x :: c, inB lo hi y = false := fun y hy => by
        rcases List.mem_cons.1 hy with rfl | hy
        · simpa using hin
        · have h1 := rightB_mem h.2.2 y hy
          have h2 := (goodE_of h1.1).se
          unfold inB; rw [decide_eq_false (show ¬ y.e ≤ hi by omega)]; simp
      have e1 : (x :: c).filter (inB lo hi) = [] := List.filter_eq_nil_iff.2 fun y hy => by rw [hall y hy]; simp
      have e2 : (x :: c).filter (fun x => !inB lo hi x) = x :: c := List.filter_eq_self.2 fun y hy => by rw [hall y hy]; rfl
      have e3 : (x :: c).map (fun x => if inB lo hi x then f x else x) = (x :: c).map id := List.map_congr_left fun y hy => by rw [if_neg (by rw [hall y hy]; simp)]; rfl
      rw [e1, e2, e3, List.map_id]
      rfl
theorem split_c (lo hi : Int) (f : Ent → Ent) : ∀ {c : List Ent} {last : Int}, rightB last c = true → (∀ y ∈ c, ¬ (y.s < lo ∧ lo < y.e)) →
    (c.filter (fun x => !inB lo hi x)).take (fidx (c.filter (fun x => !inB lo hi x)) lo) ++ (c.filter (inB lo hi)).map f ++ (c.filter (fun x => !inB lo hi x)).drop (fidx (c.filter (fun x => !inB lo hi x)) lo) = c.map fun x => if inB lo hi x then f x else x
  | [], _, _, _ => rfl
  | x :: c, last, h, hs => by
    have h' := h
    rw [rightB_cons] at h
    have hse := (goodE_of h.1).se
    by_cases hx : x.e ≤ lo
    · have hin : inB lo hi x = false := by unfold inB; rw [decide_eq_false (by omega)]; rfl
      have ih := split_c lo hi f h.2.2 (fun y hy => hs y (by simp [hy]))
      rw [List.filter_cons, if_pos (by rw [hin]; rfl), List.filter_cons, if_neg (by rw [hin]; simp), fidx_skip hx, List.take_succ_cons, List.drop_succ_cons, List.map_cons, if_neg (by rw [hin]; simp), ← ih]
      rfl
    · have hxs : lo ≤ x.s := Int.not_lt.1 fun hc => hs x (by simp) ⟨hc, by omega⟩
      have hz : fidx ((x :: c).filter (fun x => !inB lo hi x)) lo = 0 := by
        refine fidx_of _ _ _ (by simp) (fun t y ht => by omega) (fun y hy => ?_)
        have hm := (List.mem_filter.1 (List.mem_of_getElem? hy)).1
        rcases List.mem_cons.1 hm with rfl | hm
        · omega
        · have h1 := rightB_mem h.2.2 y hm
          have h2 := (goodE_of h1.1).se
          omega
      rw [hz, List.take_zero, List.drop_zero, List.nil_append]
      have hr2 : rightB x.s (x :: c) = true := by rw [rightB_cons]; exact ⟨h.1, Int.le_refl _, h.2.2⟩
      exact pre_split lo hi f hr2 hxs
theorem set_split {l : List Ent} (h : rightB 0 l = true) (lo hi : Int) (f : Ent → Ent) : (leftL l lo hi).take (fidx (leftL l lo hi) lo) ++ (goneL l lo hi).map f ++ (leftL l lo hi).drop (fidx (leftL l lo hi) lo) = setL l lo hi f :=
  split_c lo hi f (rightB_clip hi (rightB_clip lo h)) (fun y hy => (span_lo hy).1)
theorem gone_ne {l : List Ent} (h : rightB 0 l = true) {lo n : Int} (hn : 1 ≤ n) (hw : wholeR l lo (lo + n) = true) : 1 ≤ (goneL l lo (lo + n)).length := by
  have h1 := (whole_cov h).1 hw lo (Int.le_refl _) (by omega)
  obtain ⟨x, hx, -⟩ := (cov_gone (Int.le_refl lo) (by omega : lo < lo + n)).2 h1
  exact List.length_pos_of_mem hx
theorem upTo_all (f : Ent → Ent) (ms : List Ent) : upTo f ms ms.length = ms.map f := by unfold upTo; rw [List.take_length, List.drop_length, List.append_nil]
theorem upTo_zero (f : Ent → Ent) (ms : List Ent) : upTo f ms 0 = ms := by unfold upTo; simp
set_option maxRecDepth 100000 in
set_option maxHeartbeats 4000000 in
theorem allProtect {w : World} {b bp : Nat} {v : Value} {l : List Ent} {p : Int} (h : MT w b v l) (hl : l.length ≤ 390) (hr : rightB 0 l = true) (hp : ob w bp = some (.cells #[.int .i64 p] 3 (0, 0))) (hbp : bp ≠ b) (lo n : Int) (ok : Bool) (hst : ok = true → Sets (fun x => (mayP p) x = true) (prE p)) :
    Calls Try.prog 28 #[.pointer (some ⟨b, 0, none⟩), .int .i64 lo, .int .i64 n, .bool ok, .func (.func 33) #[] #[.pointer (some ⟨bp, 0, none⟩)], .func (.func 34) #[] #[.pointer (some ⟨bp, 0, none⟩)]] w fun e w' => e = .returned (.int .i64 (setV l lo n ok (mayP p) (prE p)).err) ∧ MOut b v (setV l lo n ok (mayP p) (prE p)).l w w' := by
  obtain ⟨A, N, C, hv⟩ := h.sl.shape
  subst hv
  obtain ⟨R, hR⟩ : ∃ R, setV l lo n ok (mayP p) (prE p) = R := ⟨_, rfl⟩
  rw [hR]
  have HR := Lib.hid hR.symm
  unfold setV at HR
  obtain ⟨W1, hW1⟩ : ∃ W1, w.alloc (.cells #[.func (.func 33) #[] #[.pointer (some ⟨bp, 0, none⟩)]] 61) = W1 := ⟨_, rfl⟩
  obtain ⟨bm, hbm⟩ : ∃ bm, w.heap.size = bm := ⟨_, rfl⟩
  have hf1 : Fr (fun _ => False) w W1 := by rw [← hW1]; exact (Fr.refl _ _).alloc _
  have hm1 : ob W1 bm = some (.cells #[.func (.func 33) #[] #[.pointer (some ⟨bp, 0, none⟩)]] 61 (0, 0)) := by rw [← hW1, ← hbm]; exact ob_new _ _
  have h1 := h.keep hf1
  have hmd := made_any h1
  have hwi := within_any lo n W1
  have hwo := whole_any (Sl.rd h1.sl) (by omega) hr lo (lo + n)
  have c1 : W1.cell? ⟨b, 0, none⟩ = some (.slice A N C) := cell_of_ob h1.blk 0
  have s1 := h1.lt
  have HBM := Lib.hid hbm
  have HM1 := Lib.hid hm1
  have HP := Lib.hid hp
  have HH := Lib.hid h
  have HF1 := Lib.hid hf1
  have HRT := Lib.hid hr
  have HL := Lib.hid hl
  have HST := Lib.hid hst
  clear hR hf1 hm1 h1 h hp hr hl hst
  go_enter Try.func28, Try.ntmps28
  go_wp2_with fail
  try rw [hW1, hbm]
  clear hW1 hbm
  refine hmd.mono ?_
  rintro e w2 ⟨rfl, hw⟩; rw [hw]; clear hw w2 hmd
  cases hq : withinB lo n with
  | false =>
    rw [hq] at hwi
    have HRR : Hid (R = ⟨0, [], 2, l⟩) := Lib.hid (by rw [HR.out, hq]; simp)
    clear hwo hq
    go_wp2_with fail
    refine hwi.mono ?_
    rintro e w2 ⟨rfl, hw⟩; rw [hw]; clear hw w2 hwi
    go_wp2
    go_ret
    rw [HRR.out]
    exact ⟨rfl, HH.out.same HF1.out⟩
  | true =>
    rw [hq] at hwi
    have HQ := Lib.hid hq
    obtain ⟨g1, g2, g3, g4⟩ := withinB_iff.1 hq
    clear hq
    cases ok with
    | false =>
      have HRR : Hid (R = ⟨0, [], 2, l⟩) := Lib.hid (by rw [HR.out]; simp)
      clear hwo
      go_wp2_with fail
      refine hwi.mono ?_
      rintro e w2 ⟨rfl, hw⟩; rw [hw]; clear hw w2 hwi
      go_wp2
      go_ret
      rw [HRR.out]
      exact ⟨rfl, HH.out.same HF1.out⟩
    | true =>
      go_wp2_with fail
      refine hwi.mono ?_
      rintro e w2 ⟨rfl, hw⟩; rw [hw]; clear hw w2 hwi
      cases hwh : wholeR l lo (lo + n) with
      | false =>
        rw [hwh] at hwo
        have HRR : Hid (R = ⟨0, [], 5, l⟩) := Lib.hid (by rw [HR.out, HQ.out, hwh]; simp)
        clear hwh
        go_wp2_with fail
        refine hwo.mono ?_
        rintro e w2 ⟨rfl, hf2⟩
        have HF2 := Lib.hid (Fr.also HF1.out hf2)
        clear hwo hf2
        go_wp2
        go_ret
        rw [HRR.out]
        exact ⟨rfl, HH.out.same HF2.out⟩
      | true =>
        rw [hwh] at hwo
        have HGN := Lib.hid (gone_ne HRT.out g2 hwh)
        have HWH := Lib.hid hwh
        clear hwh
        go_wp2_with fail
        refine hwo.mono ?_
        rintro e w2 ⟨rfl, hf2⟩
        have hf02 := Fr.also HF1.out hf2
        have h2 := HH.out.keep hf02
        have hcu := cut_any' (Sl.rd h2.sl) (by have := HL.out; omega) HRT.out lo (lo + n)
        have c2 : w2.cell? ⟨b, 0, none⟩ = some (.slice A N C) := cell_of_ob h2.blk 0
        have s2 := h2.lt
        have HF2 := Lib.hid hf2
        have HF02 := Lib.hid hf02
        clear hwo hf2 hf02 h2 c1 s1
        go_wp2_with fail
        refine hcu.mono ?_
        rintro e w3 ⟨v1, v2, rfl, hs1, hs2, hf3, ho1, ho2, ho12⟩
        clear hcu c2 s2
        obtain ⟨A1, N1, C1, rfl⟩ := hs1.shape
        obtain ⟨x0, hx0⟩ : ∃ x, (goneL l lo (lo + n))[0]? = some x := ⟨_, List.getElem?_eq_getElem (by have := HGN.out; omega)⟩
        obtain ⟨g, og, m, vc, rfl, hgl, -, hm, -⟩ := SE.entry hs2 hx0
        have hf03 := Fr.also HF02.out hf3
        have hco := conP p bp bm (w := w3) (hf3.keep (fun h => h) (HF2.out.keep (fun h => h) HM1.out)) (hf03.keep (fun h => h) HP.out) hs2 (by have := gone_len lo (lo + n) HRT.out; have := HL.out; omega)
        have HS1 := Lib.hid hs1
        have HS2 := Lib.hid hs2
        have HF03 := Lib.hid hf03
        have HO1 := Lib.hid ho1
        have HO2 := Lib.hid ho2
        have HO12 := Lib.hid ho12
        have HMM := Lib.hid hm
        have hm5 : m ≤ 392 := by have := gone_len lo (lo + n) HRT.out; have := HL.out; omega
        have hm1 : 1 ≤ m := by have := HGN.out; omega
        have hgw : w.heap.size ≤ g := by have := ho2 g rfl; have := HF02.out.size; omega
        clear hx0 hs1 hs2 hf03 hf3 ho1 ho2 ho12 hm
        cases hal : (goneL l lo (lo + n)).all (mayP p) with
        | false =>
          rw [hal] at hco
          have HRR : Hid (R = ⟨0, [], 3, l⟩) := Lib.hid (by rw [HR.out, HQ.out, HWH.out, hal]; simp)
          clear hal
          go_wp2_with fail
          refine hco.mono ?_
          rintro e w4 ⟨rfl, hf4⟩
          have HF4 := Lib.hid (Fr.also HF03.out hf4)
          clear hco hf4
          go_wp2
          go_ret
          rw [HRR.out]
          exact ⟨rfl, HH.out.same HF4.out⟩
        | true =>
          rw [hal] at hco
          have HRR : Hid (R = ⟨0, [], 0, mergeL (setL l lo (lo + n) (prE p))⟩) := Lib.hid (by rw [HR.out, HQ.out, HWH.out, hal]; simp)
          have HAL := Lib.hid hal
          clear hal
          go_wp2_with fail
          refine hco.mono ?_
          rintro e w4 ⟨rfl, hf4⟩
          have HF4 := Lib.hid (Fr.also HF03.out hf4)
          have hs4 : SE w4 (.slice (some ⟨g, og, none⟩) m vc) (upTo (prE p) (goneL l lo (lo + n)) 0) := by rw [upTo_zero]; exact Sl.fr HS2.out hf4 (fun _ _ h => h)
          have HS14 := Lib.hid (Sl.fr HS1.out hf4 (fun _ _ h => h))
          clear hco hf4
          go_wp2_with fail
          go_loopw [59] (fun si wr => ∃ t : Nat, t ≤ m ∧ si = .int .i64 t ∧ SE wr (.slice (some ⟨g, og, none⟩) m vc) (upTo (prE p) (goneL l lo (lo + n)) t) ∧ Hid (Fr (fun k => k = g) w4 wr)) (fun si _ => m - (intOf si).toNat)
          case atStart => exact ⟨0, Nat.zero_le _, rfl, hs4, Lib.hid (Fr.refl _ _)⟩
          case round =>
            obtain ⟨t, ht, rfl, hsr, HFR⟩ := hrel
            clear hs4
            by_cases hlt : t < m
            · obtain ⟨x, hx⟩ : ∃ x, (goneL l lo (lo + n))[t]? = some x := ⟨_, List.getElem?_eq_getElem (by have := HMM.out; omega)⟩
              obtain ⟨ux, us⟩ := upTo_get (f := (prE p)) hx
              obtain ⟨g', off', n', cap', heq, hgl', hfz, -, hat⟩ := SE.entry hsr ux
              cases heq
              have hsn := SE.setAt hsr ux 5 (by omega) (.int .i64 p) (y := prE p x) rfl
              rw [us] at hsn
              obtain ⟨d0, d1, d2, d3, d4, d5, d6, d7, d8, d9⟩ := hat
              have hdo := doProtect (p := p) (bp := bp) (g := g) (o := og + t * 10) (w := wr) (HFR.out.keep (by have := HP.out; have := ob_lt HP.out; omega) (HF4.out.keep (fun h => h) HP.out)) d5 (hfz _)
              have HSN := Lib.hid hsn
              have HFR2 := Lib.hid (HFR.out.setCell ⟨g, og + t * 10 + 5, none⟩ (.int .i64 p) (.inl rfl))
              clear hx ux us hsn hsr d0 d1 d2 d3 d4 d5 d6 d7 d8 d9 hfz
              go_wp2_with fail
              refine hdo.mono ?_
              rintro e w5 ⟨⟨u5, rfl⟩, hw⟩; rw [hw]; clear hw w5 hdo
              go_wp2
              go_roundw
              case rel => exact ⟨t + 1, by omega, by go_num, HSN.out, HFR2⟩
              case measure => simp [intOf]; omega
            · obtain rfl : t = m := by omega
              have hua : upTo (prE p) (goneL l lo (lo + n)) t = (goneL l lo (lo + n)).map (prE p) := by rw [HMM.out]; exact upTo_all _ _
              rw [hua] at hsr
              have h1g : ∀ k, (Value.slice A1 N1 C1).ownBlock = some k → k ≠ g := fun k hk e => HO12.out k hk (by rw [e]; rfl)
              have hs1r := Sl.fr HS14.out HFR.out h1g
              have hll := left_len lo (lo + n) HRT.out
              have hfi := find_any (Sl.rd hs1r) (by have := HL.out; omega) (ends_of_right (right_left lo (lo + n) HRT.out)) lo
              have hfl := fidx_le (leftL l lo (lo + n)) lo
              have HSP := Lib.hid (set_split HRT.out lo (lo + n) (prE p))
              have hset : rightB 0 (setL l lo (lo + n) (prE p)) = true := right_set HRT.out (HST.out (by simp)) (fun x hx => List.all_eq_true.1 HAL.out x hx)
              have HSET := Lib.hid hset
              have HSL := Lib.hid (setL_len (lo := lo) (hi := lo + n) (f := (prE p)) HRT.out)
              obtain ⟨i, hi⟩ : ∃ i, fidx (leftL l lo (lo + n)) lo = i := ⟨_, rfl⟩
              rw [hi] at hfi hfl
              have HI := Lib.hid hi
              have HSR := Lib.hid hsr
              have HLL := Lib.hid hll
              have HFL := Lib.hid hfl
              have H1G := Lib.hid h1g
              obtain ⟨fo, hfo⟩ : ∃ fo, fok (leftL l lo (lo + n)) lo = fo := ⟨_, rfl⟩
              rw [hfo] at hfi
              clear hua hset hi hsr h1g hs1r hll hfl hfo
              go_wp2_with fail
              refine hfi.mono ?_
              rintro e w6 ⟨rfl, hf6⟩
              clear hfi
              have hs6 := Sl.fr (Sl.fr HS14.out HFR.out H1G.out) hf6 (fun _ _ h => h)
              have hm6 := Sl.fr HSR.out hf6 (fun _ _ h => h)
              have hins := insN_any hs6 (by have := HLL.out; have := HL.out; omega) g og t vc ((goneL l lo (lo + n)).map (prE p)) hm6 (by rw [List.length_map]; exact HMM.out) hm1 (by omega) H1G.out i HFL.out
              have e6 : (leftL l lo (lo + n)).take i ++ (goneL l lo (lo + n)).map (prE p) ++ (leftL l lo (lo + n)).drop i = setL l lo (lo + n) (prE p) := by rw [← HI.out]; exact HSP.out
              rw [e6] at hins
              have HF6 := Lib.hid hf6
              clear e6 hs6 hm6 hf6
              go_wp2_with fail
              refine hins.mono ?_
              rintro e w7 ⟨v7, rfl, hs7, hf7, ho7⟩
              obtain ⟨A7, N7, C7, rfl⟩ := hs7.shape
              clear hins
              have hme := merge_any (Sl.rd hs7) (by have := HSL.out; have := HL.out; omega) HSET.out
              go_wp2_with fail
              refine hme.mono ?_
              rintro e w8 ⟨v8, rfl, hs8, hf8, ho8⟩
              obtain ⟨A8, N8, C8, rfl⟩ := hs8.shape
              clear hme
              have hsz2 := HF02.out.size
              have hf07 : Fr (fun _ => False) w w7 := ((HF4.out.step HFR.out (fun k hk => .inr (by omega))).also HF6.out).step hf7 (fun k hk => .inr (by have := HO1.out k hk; omega))
              have hf08 := Fr.also hf07 hf8
              have h8 := HH.out.keep hf08
              have c8 : w8.cell? ⟨b, 0, none⟩ = some (.slice A N C) := cell_of_ob h8.blk 0
              have z8 := frozen_of_ob h8.blk 0
              have HO := Lib.hid (HH.out.set hf08 hs8 (fun k hk => by have := ho8 k hk; have := hf07.size; omega))
              clear h8 hf07 hf08 hf7 hf8 hs7 hs8 ho7 ho8
              go_wp2
              go_ret
              rw [HRR.out]
              exact ⟨rfl, HO.out⟩
set_option maxRecDepth 100000 in
set_option maxHeartbeats 4000000 in
theorem allInherit {w : World} {b bp : Nat} {v : Value} {l : List Ent} {p : Int} (h : MT w b v l) (hl : l.length ≤ 390) (hr : rightB 0 l = true) (hp : ob w bp = some (.cells #[.int .i64 p] 3 (0, 0))) (hbp : bp ≠ b) (lo n : Int) (ok : Bool) (hst : ok = true → Sets (fun x => anyE x = true) (inE p)) :
    Calls Try.prog 28 #[.pointer (some ⟨b, 0, none⟩), .int .i64 lo, .int .i64 n, .bool ok, .func (.func 29) #[.pointer (some ⟨b, 0, none⟩)] #[], .func (.func 30) #[] #[.pointer (some ⟨bp, 0, none⟩)]] w fun e w' => e = .returned (.int .i64 (setV l lo n ok anyE (inE p)).err) ∧ MOut b v (setV l lo n ok anyE (inE p)).l w w' := by
  obtain ⟨A, N, C, hv⟩ := h.sl.shape
  subst hv
  obtain ⟨R, hR⟩ : ∃ R, setV l lo n ok anyE (inE p) = R := ⟨_, rfl⟩
  rw [hR]
  have HR := Lib.hid hR.symm
  unfold setV at HR
  obtain ⟨W1, hW1⟩ : ∃ W1, w.alloc (.cells #[.func (.func 29) #[.pointer (some ⟨b, 0, none⟩)] #[]] 61) = W1 := ⟨_, rfl⟩
  obtain ⟨bm, hbm⟩ : ∃ bm, w.heap.size = bm := ⟨_, rfl⟩
  have hf1 : Fr (fun _ => False) w W1 := by rw [← hW1]; exact (Fr.refl _ _).alloc _
  have hm1 : ob W1 bm = some (.cells #[.func (.func 29) #[.pointer (some ⟨b, 0, none⟩)] #[]] 61 (0, 0)) := by rw [← hW1, ← hbm]; exact ob_new _ _
  have h1 := h.keep hf1
  have hmd := made_any h1
  have hwi := within_any lo n W1
  have hwo := whole_any (Sl.rd h1.sl) (by omega) hr lo (lo + n)
  have c1 : W1.cell? ⟨b, 0, none⟩ = some (.slice A N C) := cell_of_ob h1.blk 0
  have s1 := h1.lt
  have HBM := Lib.hid hbm
  have HM1 := Lib.hid hm1
  have HP := Lib.hid hp
  have HH := Lib.hid h
  have HF1 := Lib.hid hf1
  have HRT := Lib.hid hr
  have HL := Lib.hid hl
  have HST := Lib.hid hst
  clear hR hf1 hm1 h1 h hp hr hl hst
  go_enter Try.func28, Try.ntmps28
  go_wp2_with fail
  try rw [hW1, hbm]
  clear hW1 hbm
  refine hmd.mono ?_
  rintro e w2 ⟨rfl, hw⟩; rw [hw]; clear hw w2 hmd
  cases hq : withinB lo n with
  | false =>
    rw [hq] at hwi
    have HRR : Hid (R = ⟨0, [], 2, l⟩) := Lib.hid (by rw [HR.out, hq]; simp)
    clear hwo hq
    go_wp2_with fail
    refine hwi.mono ?_
    rintro e w2 ⟨rfl, hw⟩; rw [hw]; clear hw w2 hwi
    go_wp2
    go_ret
    rw [HRR.out]
    exact ⟨rfl, HH.out.same HF1.out⟩
  | true =>
    rw [hq] at hwi
    have HQ := Lib.hid hq
    obtain ⟨g1, g2, g3, g4⟩ := withinB_iff.1 hq
    clear hq
    cases ok with
    | false =>
      have HRR : Hid (R = ⟨0, [], 2, l⟩) := Lib.hid (by rw [HR.out]; simp)
      clear hwo
      go_wp2_with fail
      refine hwi.mono ?_
      rintro e w2 ⟨rfl, hw⟩; rw [hw]; clear hw w2 hwi
      go_wp2
      go_ret
      rw [HRR.out]
      exact ⟨rfl, HH.out.same HF1.out⟩
    | true =>
      go_wp2_with fail
      refine hwi.mono ?_
      rintro e w2 ⟨rfl, hw⟩; rw [hw]; clear hw w2 hwi
      cases hwh : wholeR l lo (lo + n) with
      | false =>
        rw [hwh] at hwo
        have HRR : Hid (R = ⟨0, [], 5, l⟩) := Lib.hid (by rw [HR.out, HQ.out, hwh]; simp)
        clear hwh
        go_wp2_with fail
        refine hwo.mono ?_
        rintro e w2 ⟨rfl, hf2⟩
        have HF2 := Lib.hid (Fr.also HF1.out hf2)
        clear hwo hf2
        go_wp2
        go_ret
        rw [HRR.out]
        exact ⟨rfl, HH.out.same HF2.out⟩
      | true =>
        rw [hwh] at hwo
        have HGN := Lib.hid (gone_ne HRT.out g2 hwh)
        have HWH := Lib.hid hwh
        clear hwh
        go_wp2_with fail
        refine hwo.mono ?_
        rintro e w2 ⟨rfl, hf2⟩
        have hf02 := Fr.also HF1.out hf2
        have h2 := HH.out.keep hf02
        have hcu := cut_any' (Sl.rd h2.sl) (by have := HL.out; omega) HRT.out lo (lo + n)
        have c2 : w2.cell? ⟨b, 0, none⟩ = some (.slice A N C) := cell_of_ob h2.blk 0
        have s2 := h2.lt
        have HF2 := Lib.hid hf2
        have HF02 := Lib.hid hf02
        clear hwo hf2 hf02 h2 c1 s1
        go_wp2_with fail
        refine hcu.mono ?_
        rintro e w3 ⟨v1, v2, rfl, hs1, hs2, hf3, ho1, ho2, ho12⟩
        clear hcu c2 s2
        obtain ⟨A1, N1, C1, rfl⟩ := hs1.shape
        obtain ⟨x0, hx0⟩ : ∃ x, (goneL l lo (lo + n))[0]? = some x := ⟨_, List.getElem?_eq_getElem (by have := HGN.out; omega)⟩
        obtain ⟨g, og, m, vc, rfl, hgl, -, hm, -⟩ := SE.entry hs2 hx0
        have hf03 := Fr.also HF02.out hf3
        have hco := conY b bm (w := w3) (hf3.keep (fun h => h) (HF2.out.keep (fun h => h) HM1.out)) hs2 (by have := gone_len lo (lo + n) HRT.out; have := HL.out; omega)
        have HS1 := Lib.hid hs1
        have HS2 := Lib.hid hs2
        have HF03 := Lib.hid hf03
        have HO1 := Lib.hid ho1
        have HO2 := Lib.hid ho2
        have HO12 := Lib.hid ho12
        have HMM := Lib.hid hm
        have hm5 : m ≤ 392 := by have := gone_len lo (lo + n) HRT.out; have := HL.out; omega
        have hm1 : 1 ≤ m := by have := HGN.out; omega
        have hgw : w.heap.size ≤ g := by have := ho2 g rfl; have := HF02.out.size; omega
        clear hx0 hs1 hs2 hf03 hf3 ho1 ho2 ho12 hm
        cases hal : (goneL l lo (lo + n)).all anyE with
        | false =>
          rw [hal] at hco
          have HRR : Hid (R = ⟨0, [], 3, l⟩) := Lib.hid (by rw [HR.out, HQ.out, HWH.out, hal]; simp)
          clear hal
          go_wp2_with fail
          refine hco.mono ?_
          rintro e w4 ⟨rfl, hf4⟩
          have HF4 := Lib.hid (Fr.also HF03.out hf4)
          clear hco hf4
          go_wp2
          go_ret
          rw [HRR.out]
          exact ⟨rfl, HH.out.same HF4.out⟩
        | true =>
          rw [hal] at hco
          have HRR : Hid (R = ⟨0, [], 0, mergeL (setL l lo (lo + n) (inE p))⟩) := Lib.hid (by rw [HR.out, HQ.out, HWH.out, hal]; simp)
          have HAL := Lib.hid hal
          clear hal
          go_wp2_with fail
          refine hco.mono ?_
          rintro e w4 ⟨rfl, hf4⟩
          have HF4 := Lib.hid (Fr.also HF03.out hf4)
          have hs4 : SE w4 (.slice (some ⟨g, og, none⟩) m vc) (upTo (inE p) (goneL l lo (lo + n)) 0) := by rw [upTo_zero]; exact Sl.fr HS2.out hf4 (fun _ _ h => h)
          have HS14 := Lib.hid (Sl.fr HS1.out hf4 (fun _ _ h => h))
          clear hco hf4
          go_wp2_with fail
          go_loopw [59] (fun si wr => ∃ t : Nat, t ≤ m ∧ si = .int .i64 t ∧ SE wr (.slice (some ⟨g, og, none⟩) m vc) (upTo (inE p) (goneL l lo (lo + n)) t) ∧ Hid (Fr (fun k => k = g) w4 wr)) (fun si _ => m - (intOf si).toNat)
          case atStart => exact ⟨0, Nat.zero_le _, rfl, hs4, Lib.hid (Fr.refl _ _)⟩
          case round =>
            obtain ⟨t, ht, rfl, hsr, HFR⟩ := hrel
            clear hs4
            by_cases hlt : t < m
            · obtain ⟨x, hx⟩ : ∃ x, (goneL l lo (lo + n))[t]? = some x := ⟨_, List.getElem?_eq_getElem (by have := HMM.out; omega)⟩
              obtain ⟨ux, us⟩ := upTo_get (f := (inE p)) hx
              obtain ⟨g', off', n', cap', heq, hgl', hfz, -, hat⟩ := SE.entry hsr ux
              cases heq
              have hsn := SE.setAt hsr ux 7 (by omega) (.int .i64 p) (y := inE p x) rfl
              rw [us] at hsn
              obtain ⟨d0, d1, d2, d3, d4, d5, d6, d7, d8, d9⟩ := hat
              have hdo := doInherit (p := p) (bp := bp) (g := g) (o := og + t * 10) (w := wr) (HFR.out.keep (by have := HP.out; have := ob_lt HP.out; omega) (HF4.out.keep (fun h => h) HP.out)) d7 (hfz _)
              have HSN := Lib.hid hsn
              have HFR2 := Lib.hid (HFR.out.setCell ⟨g, og + t * 10 + 7, none⟩ (.int .i64 p) (.inl rfl))
              clear hx ux us hsn hsr d0 d1 d2 d3 d4 d5 d6 d7 d8 d9 hfz
              go_wp2_with fail
              refine hdo.mono ?_
              rintro e w5 ⟨⟨u5, rfl⟩, hw⟩; rw [hw]; clear hw w5 hdo
              go_wp2
              go_roundw
              case rel => exact ⟨t + 1, by omega, by go_num, HSN.out, HFR2⟩
              case measure => simp [intOf]; omega
            · obtain rfl : t = m := by omega
              have hua : upTo (inE p) (goneL l lo (lo + n)) t = (goneL l lo (lo + n)).map (inE p) := by rw [HMM.out]; exact upTo_all _ _
              rw [hua] at hsr
              have h1g : ∀ k, (Value.slice A1 N1 C1).ownBlock = some k → k ≠ g := fun k hk e => HO12.out k hk (by rw [e]; rfl)
              have hs1r := Sl.fr HS14.out HFR.out h1g
              have hll := left_len lo (lo + n) HRT.out
              have hfi := find_any (Sl.rd hs1r) (by have := HL.out; omega) (ends_of_right (right_left lo (lo + n) HRT.out)) lo
              have hfl := fidx_le (leftL l lo (lo + n)) lo
              have HSP := Lib.hid (set_split HRT.out lo (lo + n) (inE p))
              have hset : rightB 0 (setL l lo (lo + n) (inE p)) = true := right_set HRT.out (HST.out (by simp)) (fun x hx => List.all_eq_true.1 HAL.out x hx)
              have HSET := Lib.hid hset
              have HSL := Lib.hid (setL_len (lo := lo) (hi := lo + n) (f := (inE p)) HRT.out)
              obtain ⟨i, hi⟩ : ∃ i, fidx (leftL l lo (lo + n)) lo = i := ⟨_, rfl⟩
              rw [hi] at hfi hfl
              have HI := Lib.hid hi
              have HSR := Lib.hid hsr
              have HLL := Lib.hid hll
              have HFL := Lib.hid hfl
              have H1G := Lib.hid h1g
              obtain ⟨fo, hfo⟩ : ∃ fo, fok (leftL l lo (lo + n)) lo = fo := ⟨_, rfl⟩
              rw [hfo] at hfi
              clear hua hset hi hsr h1g hs1r hll hfl hfo
              go_wp2_with fail
              refine hfi.mono ?_
              rintro e w6 ⟨rfl, hf6⟩
              clear hfi
              have hs6 := Sl.fr (Sl.fr HS14.out HFR.out H1G.out) hf6 (fun _ _ h => h)
              have hm6 := Sl.fr HSR.out hf6 (fun _ _ h => h)
              have hins := insN_any hs6 (by have := HLL.out; have := HL.out; omega) g og t vc ((goneL l lo (lo + n)).map (inE p)) hm6 (by rw [List.length_map]; exact HMM.out) hm1 (by omega) H1G.out i HFL.out
              have e6 : (leftL l lo (lo + n)).take i ++ (goneL l lo (lo + n)).map (inE p) ++ (leftL l lo (lo + n)).drop i = setL l lo (lo + n) (inE p) := by rw [← HI.out]; exact HSP.out
              rw [e6] at hins
              have HF6 := Lib.hid hf6
              clear e6 hs6 hm6 hf6
              go_wp2_with fail
              refine hins.mono ?_
              rintro e w7 ⟨v7, rfl, hs7, hf7, ho7⟩
              obtain ⟨A7, N7, C7, rfl⟩ := hs7.shape
              clear hins
              have hme := merge_any (Sl.rd hs7) (by have := HSL.out; have := HL.out; omega) HSET.out
              go_wp2_with fail
              refine hme.mono ?_
              rintro e w8 ⟨v8, rfl, hs8, hf8, ho8⟩
              obtain ⟨A8, N8, C8, rfl⟩ := hs8.shape
              clear hme
              have hsz2 := HF02.out.size
              have hf07 : Fr (fun _ => False) w w7 := ((HF4.out.step HFR.out (fun k hk => .inr (by omega))).also HF6.out).step hf7 (fun k hk => .inr (by have := HO1.out k hk; omega))
              have hf08 := Fr.also hf07 hf8
              have h8 := HH.out.keep hf08
              have c8 : w8.cell? ⟨b, 0, none⟩ = some (.slice A N C) := cell_of_ob h8.blk 0
              have z8 := frozen_of_ob h8.blk 0
              have HO := Lib.hid (HH.out.set hf08 hs8 (fun k hk => by have := ho8 k hk; have := hf07.size; omega))
              clear h8 hf07 hf08 hf7 hf8 hs7 hs8 ho7 ho8
              go_wp2
              go_ret
              rw [HRR.out]
              exact ⟨rfl, HO.out⟩
set_option maxRecDepth 100000 in
set_option maxHeartbeats 4000000 in
theorem allAdvise {w : World} {b bp : Nat} {v : Value} {l : List Ent} {p : Int} (h : MT w b v l) (hl : l.length ≤ 390) (hr : rightB 0 l = true) (hp : ob w bp = some (.cells #[.int .i64 p] 3 (0, 0))) (hbp : bp ≠ b) (lo n : Int) (ok : Bool) (hst : ok = true → Sets (fun x => anyE x = true) (adE p)) :
    Calls Try.prog 28 #[.pointer (some ⟨b, 0, none⟩), .int .i64 lo, .int .i64 n, .bool ok, .func (.func 29) #[.pointer (some ⟨b, 0, none⟩)] #[], .func (.func 31) #[] #[.pointer (some ⟨bp, 0, none⟩)]] w fun e w' => e = .returned (.int .i64 (setV l lo n ok anyE (adE p)).err) ∧ MOut b v (setV l lo n ok anyE (adE p)).l w w' := by
  obtain ⟨A, N, C, hv⟩ := h.sl.shape
  subst hv
  obtain ⟨R, hR⟩ : ∃ R, setV l lo n ok anyE (adE p) = R := ⟨_, rfl⟩
  rw [hR]
  have HR := Lib.hid hR.symm
  unfold setV at HR
  obtain ⟨W1, hW1⟩ : ∃ W1, w.alloc (.cells #[.func (.func 29) #[.pointer (some ⟨b, 0, none⟩)] #[]] 61) = W1 := ⟨_, rfl⟩
  obtain ⟨bm, hbm⟩ : ∃ bm, w.heap.size = bm := ⟨_, rfl⟩
  have hf1 : Fr (fun _ => False) w W1 := by rw [← hW1]; exact (Fr.refl _ _).alloc _
  have hm1 : ob W1 bm = some (.cells #[.func (.func 29) #[.pointer (some ⟨b, 0, none⟩)] #[]] 61 (0, 0)) := by rw [← hW1, ← hbm]; exact ob_new _ _
  have h1 := h.keep hf1
  have hmd := made_any h1
  have hwi := within_any lo n W1
  have hwo := whole_any (Sl.rd h1.sl) (by omega) hr lo (lo + n)
  have c1 : W1.cell? ⟨b, 0, none⟩ = some (.slice A N C) := cell_of_ob h1.blk 0
  have s1 := h1.lt
  have HBM := Lib.hid hbm
  have HM1 := Lib.hid hm1
  have HP := Lib.hid hp
  have HH := Lib.hid h
  have HF1 := Lib.hid hf1
  have HRT := Lib.hid hr
  have HL := Lib.hid hl
  have HST := Lib.hid hst
  clear hR hf1 hm1 h1 h hp hr hl hst
  go_enter Try.func28, Try.ntmps28
  go_wp2_with fail
  try rw [hW1, hbm]
  clear hW1 hbm
  refine hmd.mono ?_
  rintro e w2 ⟨rfl, hw⟩; rw [hw]; clear hw w2 hmd
  cases hq : withinB lo n with
  | false =>
    rw [hq] at hwi
    have HRR : Hid (R = ⟨0, [], 2, l⟩) := Lib.hid (by rw [HR.out, hq]; simp)
    clear hwo hq
    go_wp2_with fail
    refine hwi.mono ?_
    rintro e w2 ⟨rfl, hw⟩; rw [hw]; clear hw w2 hwi
    go_wp2
    go_ret
    rw [HRR.out]
    exact ⟨rfl, HH.out.same HF1.out⟩
  | true =>
    rw [hq] at hwi
    have HQ := Lib.hid hq
    obtain ⟨g1, g2, g3, g4⟩ := withinB_iff.1 hq
    clear hq
    cases ok with
    | false =>
      have HRR : Hid (R = ⟨0, [], 2, l⟩) := Lib.hid (by rw [HR.out]; simp)
      clear hwo
      go_wp2_with fail
      refine hwi.mono ?_
      rintro e w2 ⟨rfl, hw⟩; rw [hw]; clear hw w2 hwi
      go_wp2
      go_ret
      rw [HRR.out]
      exact ⟨rfl, HH.out.same HF1.out⟩
    | true =>
      go_wp2_with fail
      refine hwi.mono ?_
      rintro e w2 ⟨rfl, hw⟩; rw [hw]; clear hw w2 hwi
      cases hwh : wholeR l lo (lo + n) with
      | false =>
        rw [hwh] at hwo
        have HRR : Hid (R = ⟨0, [], 5, l⟩) := Lib.hid (by rw [HR.out, HQ.out, hwh]; simp)
        clear hwh
        go_wp2_with fail
        refine hwo.mono ?_
        rintro e w2 ⟨rfl, hf2⟩
        have HF2 := Lib.hid (Fr.also HF1.out hf2)
        clear hwo hf2
        go_wp2
        go_ret
        rw [HRR.out]
        exact ⟨rfl, HH.out.same HF2.out⟩
      | true =>
        rw [hwh] at hwo
        have HGN := Lib.hid (gone_ne HRT.out g2 hwh)
        have HWH := Lib.hid hwh
        clear hwh
        go_wp2_with fail
        refine hwo.mono ?_
        rintro e w2 ⟨rfl, hf2⟩
        have hf02 := Fr.also HF1.out hf2
        have h2 := HH.out.keep hf02
        have hcu := cut_any' (Sl.rd h2.sl) (by have := HL.out; omega) HRT.out lo (lo + n)
        have c2 : w2.cell? ⟨b, 0, none⟩ = some (.slice A N C) := cell_of_ob h2.blk 0
        have s2 := h2.lt
        have HF2 := Lib.hid hf2
        have HF02 := Lib.hid hf02
        clear hwo hf2 hf02 h2 c1 s1
        go_wp2_with fail
        refine hcu.mono ?_
        rintro e w3 ⟨v1, v2, rfl, hs1, hs2, hf3, ho1, ho2, ho12⟩
        clear hcu c2 s2
        obtain ⟨A1, N1, C1, rfl⟩ := hs1.shape
        obtain ⟨x0, hx0⟩ : ∃ x, (goneL l lo (lo + n))[0]? = some x := ⟨_, List.getElem?_eq_getElem (by have := HGN.out; omega)⟩
        obtain ⟨g, og, m, vc, rfl, hgl, -, hm, -⟩ := SE.entry hs2 hx0
        have hf03 := Fr.also HF02.out hf3
        have hco := conY b bm (w := w3) (hf3.keep (fun h => h) (HF2.out.keep (fun h => h) HM1.out)) hs2 (by have := gone_len lo (lo + n) HRT.out; have := HL.out; omega)
        have HS1 := Lib.hid hs1
        have HS2 := Lib.hid hs2
        have HF03 := Lib.hid hf03
        have HO1 := Lib.hid ho1
        have HO2 := Lib.hid ho2
        have HO12 := Lib.hid ho12
        have HMM := Lib.hid hm
        have hm5 : m ≤ 392 := by have := gone_len lo (lo + n) HRT.out; have := HL.out; omega
        have hm1 : 1 ≤ m := by have := HGN.out; omega
        have hgw : w.heap.size ≤ g := by have := ho2 g rfl; have := HF02.out.size; omega
        clear hx0 hs1 hs2 hf03 hf3 ho1 ho2 ho12 hm
        cases hal : (goneL l lo (lo + n)).all anyE with
        | false =>
          rw [hal] at hco
          have HRR : Hid (R = ⟨0, [], 3, l⟩) := Lib.hid (by rw [HR.out, HQ.out, HWH.out, hal]; simp)
          clear hal
          go_wp2_with fail
          refine hco.mono ?_
          rintro e w4 ⟨rfl, hf4⟩
          have HF4 := Lib.hid (Fr.also HF03.out hf4)
          clear hco hf4
          go_wp2
          go_ret
          rw [HRR.out]
          exact ⟨rfl, HH.out.same HF4.out⟩
        | true =>
          rw [hal] at hco
          have HRR : Hid (R = ⟨0, [], 0, mergeL (setL l lo (lo + n) (adE p))⟩) := Lib.hid (by rw [HR.out, HQ.out, HWH.out, hal]; simp)
          have HAL := Lib.hid hal
          clear hal
          go_wp2_with fail
          refine hco.mono ?_
          rintro e w4 ⟨rfl, hf4⟩
          have HF4 := Lib.hid (Fr.also HF03.out hf4)
          have hs4 : SE w4 (.slice (some ⟨g, og, none⟩) m vc) (upTo (adE p) (goneL l lo (lo + n)) 0) := by rw [upTo_zero]; exact Sl.fr HS2.out hf4 (fun _ _ h => h)
          have HS14 := Lib.hid (Sl.fr HS1.out hf4 (fun _ _ h => h))
          clear hco hf4
          go_wp2_with fail
          go_loopw [59] (fun si wr => ∃ t : Nat, t ≤ m ∧ si = .int .i64 t ∧ SE wr (.slice (some ⟨g, og, none⟩) m vc) (upTo (adE p) (goneL l lo (lo + n)) t) ∧ Hid (Fr (fun k => k = g) w4 wr)) (fun si _ => m - (intOf si).toNat)
          case atStart => exact ⟨0, Nat.zero_le _, rfl, hs4, Lib.hid (Fr.refl _ _)⟩
          case round =>
            obtain ⟨t, ht, rfl, hsr, HFR⟩ := hrel
            clear hs4
            by_cases hlt : t < m
            · obtain ⟨x, hx⟩ : ∃ x, (goneL l lo (lo + n))[t]? = some x := ⟨_, List.getElem?_eq_getElem (by have := HMM.out; omega)⟩
              obtain ⟨ux, us⟩ := upTo_get (f := (adE p)) hx
              obtain ⟨g', off', n', cap', heq, hgl', hfz, -, hat⟩ := SE.entry hsr ux
              cases heq
              have hsn := SE.setAt hsr ux 8 (by omega) (.int .i64 p) (y := adE p x) rfl
              rw [us] at hsn
              obtain ⟨d0, d1, d2, d3, d4, d5, d6, d7, d8, d9⟩ := hat
              have hdo := doAdvise (p := p) (bp := bp) (g := g) (o := og + t * 10) (w := wr) (HFR.out.keep (by have := HP.out; have := ob_lt HP.out; omega) (HF4.out.keep (fun h => h) HP.out)) d8 (hfz _)
              have HSN := Lib.hid hsn
              have HFR2 := Lib.hid (HFR.out.setCell ⟨g, og + t * 10 + 8, none⟩ (.int .i64 p) (.inl rfl))
              clear hx ux us hsn hsr d0 d1 d2 d3 d4 d5 d6 d7 d8 d9 hfz
              go_wp2_with fail
              refine hdo.mono ?_
              rintro e w5 ⟨⟨u5, rfl⟩, hw⟩; rw [hw]; clear hw w5 hdo
              go_wp2
              go_roundw
              case rel => exact ⟨t + 1, by omega, by go_num, HSN.out, HFR2⟩
              case measure => simp [intOf]; omega
            · obtain rfl : t = m := by omega
              have hua : upTo (adE p) (goneL l lo (lo + n)) t = (goneL l lo (lo + n)).map (adE p) := by rw [HMM.out]; exact upTo_all _ _
              rw [hua] at hsr
              have h1g : ∀ k, (Value.slice A1 N1 C1).ownBlock = some k → k ≠ g := fun k hk e => HO12.out k hk (by rw [e]; rfl)
              have hs1r := Sl.fr HS14.out HFR.out h1g
              have hll := left_len lo (lo + n) HRT.out
              have hfi := find_any (Sl.rd hs1r) (by have := HL.out; omega) (ends_of_right (right_left lo (lo + n) HRT.out)) lo
              have hfl := fidx_le (leftL l lo (lo + n)) lo
              have HSP := Lib.hid (set_split HRT.out lo (lo + n) (adE p))
              have hset : rightB 0 (setL l lo (lo + n) (adE p)) = true := right_set HRT.out (HST.out (by simp)) (fun x hx => List.all_eq_true.1 HAL.out x hx)
              have HSET := Lib.hid hset
              have HSL := Lib.hid (setL_len (lo := lo) (hi := lo + n) (f := (adE p)) HRT.out)
              obtain ⟨i, hi⟩ : ∃ i, fidx (leftL l lo (lo + n)) lo = i := ⟨_, rfl⟩
              rw [hi] at hfi hfl
              have HI := Lib.hid hi
              have HSR := Lib.hid hsr
              have HLL := Lib.hid hll
              have HFL := Lib.hid hfl
              have H1G := Lib.hid h1g
              obtain ⟨fo, hfo⟩ : ∃ fo, fok (leftL l lo (lo + n)) lo = fo := ⟨_, rfl⟩
              rw [hfo] at hfi
              clear hua hset hi hsr h1g hs1r hll hfl hfo
              go_wp2_with fail
              refine hfi.mono ?_
              rintro e w6 ⟨rfl, hf6⟩
              clear hfi
              have hs6 := Sl.fr (Sl.fr HS14.out HFR.out H1G.out) hf6 (fun _ _ h => h)
              have hm6 := Sl.fr HSR.out hf6 (fun _ _ h => h)
              have hins := insN_any hs6 (by have := HLL.out; have := HL.out; omega) g og t vc ((goneL l lo (lo + n)).map (adE p)) hm6 (by rw [List.length_map]; exact HMM.out) hm1 (by omega) H1G.out i HFL.out
              have e6 : (leftL l lo (lo + n)).take i ++ (goneL l lo (lo + n)).map (adE p) ++ (leftL l lo (lo + n)).drop i = setL l lo (lo + n) (adE p) := by rw [← HI.out]; exact HSP.out
              rw [e6] at hins
              have HF6 := Lib.hid hf6
              clear e6 hs6 hm6 hf6
              go_wp2_with fail
              refine hins.mono ?_
              rintro e w7 ⟨v7, rfl, hs7, hf7, ho7⟩
              obtain ⟨A7, N7, C7, rfl⟩ := hs7.shape
              clear hins
              have hme := merge_any (Sl.rd hs7) (by have := HSL.out; have := HL.out; omega) HSET.out
              go_wp2_with fail
              refine hme.mono ?_
              rintro e w8 ⟨v8, rfl, hs8, hf8, ho8⟩
              obtain ⟨A8, N8, C8, rfl⟩ := hs8.shape
              clear hme
              have hsz2 := HF02.out.size
              have hf07 : Fr (fun _ => False) w w7 := ((HF4.out.step HFR.out (fun k hk => .inr (by omega))).also HF6.out).step hf7 (fun k hk => .inr (by have := HO1.out k hk; omega))
              have hf08 := Fr.also hf07 hf8
              have h8 := HH.out.keep hf08
              have c8 : w8.cell? ⟨b, 0, none⟩ = some (.slice A N C) := cell_of_ob h8.blk 0
              have z8 := frozen_of_ob h8.blk 0
              have HO := Lib.hid (HH.out.set hf08 hs8 (fun k hk => by have := ho8 k hk; have := hf07.size; omega))
              clear h8 hf07 hf08 hf7 hf8 hs7 hs8 ho7 ho8
              go_wp2
              go_ret
              rw [HRR.out]
              exact ⟨rfl, HO.out⟩
set_option maxRecDepth 100000 in
set_option maxHeartbeats 4000000 in
theorem allWire {w : World} {b bp : Nat} {v : Value} {l : List Ent} {p : Bool} (h : MT w b v l) (hl : l.length ≤ 390) (hr : rightB 0 l = true) (hp : ob w bp = some (.cells #[.bool p] 4 (0, 0))) (hbp : bp ≠ b) (lo n : Int) (ok : Bool) (hst : ok = true → Sets (fun x => anyE x = true) (wiE p)) :
    Calls Try.prog 28 #[.pointer (some ⟨b, 0, none⟩), .int .i64 lo, .int .i64 n, .bool ok, .func (.func 29) #[.pointer (some ⟨b, 0, none⟩)] #[], .func (.func 32) #[] #[.pointer (some ⟨bp, 0, none⟩)]] w fun e w' => e = .returned (.int .i64 (setV l lo n ok anyE (wiE p)).err) ∧ MOut b v (setV l lo n ok anyE (wiE p)).l w w' := by
  obtain ⟨A, N, C, hv⟩ := h.sl.shape
  subst hv
  obtain ⟨R, hR⟩ : ∃ R, setV l lo n ok anyE (wiE p) = R := ⟨_, rfl⟩
  rw [hR]
  have HR := Lib.hid hR.symm
  unfold setV at HR
  obtain ⟨W1, hW1⟩ : ∃ W1, w.alloc (.cells #[.func (.func 29) #[.pointer (some ⟨b, 0, none⟩)] #[]] 61) = W1 := ⟨_, rfl⟩
  obtain ⟨bm, hbm⟩ : ∃ bm, w.heap.size = bm := ⟨_, rfl⟩
  have hf1 : Fr (fun _ => False) w W1 := by rw [← hW1]; exact (Fr.refl _ _).alloc _
  have hm1 : ob W1 bm = some (.cells #[.func (.func 29) #[.pointer (some ⟨b, 0, none⟩)] #[]] 61 (0, 0)) := by rw [← hW1, ← hbm]; exact ob_new _ _
  have h1 := h.keep hf1
  have hmd := made_any h1
  have hwi := within_any lo n W1
  have hwo := whole_any (Sl.rd h1.sl) (by omega) hr lo (lo + n)
  have c1 : W1.cell? ⟨b, 0, none⟩ = some (.slice A N C) := cell_of_ob h1.blk 0
  have s1 := h1.lt
  have HBM := Lib.hid hbm
  have HM1 := Lib.hid hm1
  have HP := Lib.hid hp
  have HH := Lib.hid h
  have HF1 := Lib.hid hf1
  have HRT := Lib.hid hr
  have HL := Lib.hid hl
  have HST := Lib.hid hst
  clear hR hf1 hm1 h1 h hp hr hl hst
  go_enter Try.func28, Try.ntmps28
  go_wp2_with fail
  try rw [hW1, hbm]
  clear hW1 hbm
  refine hmd.mono ?_
  rintro e w2 ⟨rfl, hw⟩; rw [hw]; clear hw w2 hmd
  cases hq : withinB lo n with
  | false =>
    rw [hq] at hwi
    have HRR : Hid (R = ⟨0, [], 2, l⟩) := Lib.hid (by rw [HR.out, hq]; simp)
    clear hwo hq
    go_wp2_with fail
    refine hwi.mono ?_
    rintro e w2 ⟨rfl, hw⟩; rw [hw]; clear hw w2 hwi
    go_wp2
    go_ret
    rw [HRR.out]
    exact ⟨rfl, HH.out.same HF1.out⟩
  | true =>
    rw [hq] at hwi
    have HQ := Lib.hid hq
    obtain ⟨g1, g2, g3, g4⟩ := withinB_iff.1 hq
    clear hq
    cases ok with
    | false =>
      have HRR : Hid (R = ⟨0, [], 2, l⟩) := Lib.hid (by rw [HR.out]; simp)
      clear hwo
      go_wp2_with fail
      refine hwi.mono ?_
      rintro e w2 ⟨rfl, hw⟩; rw [hw]; clear hw w2 hwi
      go_wp2
      go_ret
      rw [HRR.out]
      exact ⟨rfl, HH.out.same HF1.out⟩
    | true =>
      go_wp2_with fail
      refine hwi.mono ?_
      rintro e w2 ⟨rfl, hw⟩; rw [hw]; clear hw w2 hwi
      cases hwh : wholeR l lo (lo + n) with
      | false =>
        rw [hwh] at hwo
        have HRR : Hid (R = ⟨0, [], 5, l⟩) := Lib.hid (by rw [HR.out, HQ.out, hwh]; simp)
        clear hwh
        go_wp2_with fail
        refine hwo.mono ?_
        rintro e w2 ⟨rfl, hf2⟩
        have HF2 := Lib.hid (Fr.also HF1.out hf2)
        clear hwo hf2
        go_wp2
        go_ret
        rw [HRR.out]
        exact ⟨rfl, HH.out.same HF2.out⟩
      | true =>
        rw [hwh] at hwo
        have HGN := Lib.hid (gone_ne HRT.out g2 hwh)
        have HWH := Lib.hid hwh
        clear hwh
        go_wp2_with fail
        refine hwo.mono ?_
        rintro e w2 ⟨rfl, hf2⟩
        have hf02 := Fr.also HF1.out hf2
        have h2 := HH.out.keep hf02
        have hcu := cut_any' (Sl.rd h2.sl) (by have := HL.out; omega) HRT.out lo (lo + n)
        have c2 : w2.cell? ⟨b, 0, none⟩ = some (.slice A N C) := cell_of_ob h2.blk 0
        have s2 := h2.lt
        have HF2 := Lib.hid hf2
        have HF02 := Lib.hid hf02
        clear hwo hf2 hf02 h2 c1 s1
        go_wp2_with fail
        refine hcu.mono ?_
        rintro e w3 ⟨v1, v2, rfl, hs1, hs2, hf3, ho1, ho2, ho12⟩
        clear hcu c2 s2
        obtain ⟨A1, N1, C1, rfl⟩ := hs1.shape
        obtain ⟨x0, hx0⟩ : ∃ x, (goneL l lo (lo + n))[0]? = some x := ⟨_, List.getElem?_eq_getElem (by have := HGN.out; omega)⟩
        obtain ⟨g, og, m, vc, rfl, hgl, -, hm, -⟩ := SE.entry hs2 hx0
        have hf03 := Fr.also HF02.out hf3
        have hco := conY b bm (w := w3) (hf3.keep (fun h => h) (HF2.out.keep (fun h => h) HM1.out)) hs2 (by have := gone_len lo (lo + n) HRT.out; have := HL.out; omega)
        have HS1 := Lib.hid hs1
        have HS2 := Lib.hid hs2
        have HF03 := Lib.hid hf03
        have HO1 := Lib.hid ho1
        have HO2 := Lib.hid ho2
        have HO12 := Lib.hid ho12
        have HMM := Lib.hid hm
        have hm5 : m ≤ 392 := by have := gone_len lo (lo + n) HRT.out; have := HL.out; omega
        have hm1 : 1 ≤ m := by have := HGN.out; omega
        have hgw : w.heap.size ≤ g := by have := ho2 g rfl; have := HF02.out.size; omega
        clear hx0 hs1 hs2 hf03 hf3 ho1 ho2 ho12 hm
        cases hal : (goneL l lo (lo + n)).all anyE with
        | false =>
          rw [hal] at hco
          have HRR : Hid (R = ⟨0, [], 3, l⟩) := Lib.hid (by rw [HR.out, HQ.out, HWH.out, hal]; simp)
          clear hal
          go_wp2_with fail
          refine hco.mono ?_
          rintro e w4 ⟨rfl, hf4⟩
          have HF4 := Lib.hid (Fr.also HF03.out hf4)
          clear hco hf4
          go_wp2
          go_ret
          rw [HRR.out]
          exact ⟨rfl, HH.out.same HF4.out⟩
        | true =>
          rw [hal] at hco
          have HRR : Hid (R = ⟨0, [], 0, mergeL (setL l lo (lo + n) (wiE p))⟩) := Lib.hid (by rw [HR.out, HQ.out, HWH.out, hal]; simp)
          have HAL := Lib.hid hal
          clear hal
          go_wp2_with fail
          refine hco.mono ?_
          rintro e w4 ⟨rfl, hf4⟩
          have HF4 := Lib.hid (Fr.also HF03.out hf4)
          have hs4 : SE w4 (.slice (some ⟨g, og, none⟩) m vc) (upTo (wiE p) (goneL l lo (lo + n)) 0) := by rw [upTo_zero]; exact Sl.fr HS2.out hf4 (fun _ _ h => h)
          have HS14 := Lib.hid (Sl.fr HS1.out hf4 (fun _ _ h => h))
          clear hco hf4
          go_wp2_with fail
          go_loopw [59] (fun si wr => ∃ t : Nat, t ≤ m ∧ si = .int .i64 t ∧ SE wr (.slice (some ⟨g, og, none⟩) m vc) (upTo (wiE p) (goneL l lo (lo + n)) t) ∧ Hid (Fr (fun k => k = g) w4 wr)) (fun si _ => m - (intOf si).toNat)
          case atStart => exact ⟨0, Nat.zero_le _, rfl, hs4, Lib.hid (Fr.refl _ _)⟩
          case round =>
            obtain ⟨t, ht, rfl, hsr, HFR⟩ := hrel
            clear hs4
            by_cases hlt : t < m
            · obtain ⟨x, hx⟩ : ∃ x, (goneL l lo (lo + n))[t]? = some x := ⟨_, List.getElem?_eq_getElem (by have := HMM.out; omega)⟩
              obtain ⟨ux, us⟩ := upTo_get (f := (wiE p)) hx
              obtain ⟨g', off', n', cap', heq, hgl', hfz, -, hat⟩ := SE.entry hsr ux
              cases heq
              have hsn := SE.setAt hsr ux 9 (by omega) (.bool p) (y := wiE p x) rfl
              rw [us] at hsn
              obtain ⟨d0, d1, d2, d3, d4, d5, d6, d7, d8, d9⟩ := hat
              have hdo := doWire (p := p) (bp := bp) (g := g) (o := og + t * 10) (w := wr) (HFR.out.keep (by have := HP.out; have := ob_lt HP.out; omega) (HF4.out.keep (fun h => h) HP.out)) d9 (hfz _)
              have HSN := Lib.hid hsn
              have HFR2 := Lib.hid (HFR.out.setCell ⟨g, og + t * 10 + 9, none⟩ (.bool p) (.inl rfl))
              clear hx ux us hsn hsr d0 d1 d2 d3 d4 d5 d6 d7 d8 d9 hfz
              go_wp2_with fail
              refine hdo.mono ?_
              rintro e w5 ⟨⟨u5, rfl⟩, hw⟩; rw [hw]; clear hw w5 hdo
              go_wp2
              go_roundw
              case rel => exact ⟨t + 1, by omega, by go_num, HSN.out, HFR2⟩
              case measure => simp [intOf]; omega
            · obtain rfl : t = m := by omega
              have hua : upTo (wiE p) (goneL l lo (lo + n)) t = (goneL l lo (lo + n)).map (wiE p) := by rw [HMM.out]; exact upTo_all _ _
              rw [hua] at hsr
              have h1g : ∀ k, (Value.slice A1 N1 C1).ownBlock = some k → k ≠ g := fun k hk e => HO12.out k hk (by rw [e]; rfl)
              have hs1r := Sl.fr HS14.out HFR.out h1g
              have hll := left_len lo (lo + n) HRT.out
              have hfi := find_any (Sl.rd hs1r) (by have := HL.out; omega) (ends_of_right (right_left lo (lo + n) HRT.out)) lo
              have hfl := fidx_le (leftL l lo (lo + n)) lo
              have HSP := Lib.hid (set_split HRT.out lo (lo + n) (wiE p))
              have hset : rightB 0 (setL l lo (lo + n) (wiE p)) = true := right_set HRT.out (HST.out (by simp)) (fun x hx => List.all_eq_true.1 HAL.out x hx)
              have HSET := Lib.hid hset
              have HSL := Lib.hid (setL_len (lo := lo) (hi := lo + n) (f := (wiE p)) HRT.out)
              obtain ⟨i, hi⟩ : ∃ i, fidx (leftL l lo (lo + n)) lo = i := ⟨_, rfl⟩
              rw [hi] at hfi hfl
              have HI := Lib.hid hi
              have HSR := Lib.hid hsr
              have HLL := Lib.hid hll
              have HFL := Lib.hid hfl
              have H1G := Lib.hid h1g
              obtain ⟨fo, hfo⟩ : ∃ fo, fok (leftL l lo (lo + n)) lo = fo := ⟨_, rfl⟩
              rw [hfo] at hfi
              clear hua hset hi hsr h1g hs1r hll hfl hfo
              go_wp2_with fail
              refine hfi.mono ?_
              rintro e w6 ⟨rfl, hf6⟩
              clear hfi
              have hs6 := Sl.fr (Sl.fr HS14.out HFR.out H1G.out) hf6 (fun _ _ h => h)
              have hm6 := Sl.fr HSR.out hf6 (fun _ _ h => h)
              have hins := insN_any hs6 (by have := HLL.out; have := HL.out; omega) g og t vc ((goneL l lo (lo + n)).map (wiE p)) hm6 (by rw [List.length_map]; exact HMM.out) hm1 (by omega) H1G.out i HFL.out
              have e6 : (leftL l lo (lo + n)).take i ++ (goneL l lo (lo + n)).map (wiE p) ++ (leftL l lo (lo + n)).drop i = setL l lo (lo + n) (wiE p) := by rw [← HI.out]; exact HSP.out
              rw [e6] at hins
              have HF6 := Lib.hid hf6
              clear e6 hs6 hm6 hf6
              go_wp2_with fail
              refine hins.mono ?_
              rintro e w7 ⟨v7, rfl, hs7, hf7, ho7⟩
              obtain ⟨A7, N7, C7, rfl⟩ := hs7.shape
              clear hins
              have hme := merge_any (Sl.rd hs7) (by have := HSL.out; have := HL.out; omega) HSET.out
              go_wp2_with fail
              refine hme.mono ?_
              rintro e w8 ⟨v8, rfl, hs8, hf8, ho8⟩
              obtain ⟨A8, N8, C8, rfl⟩ := hs8.shape
              clear hme
              have hsz2 := HF02.out.size
              have hf07 : Fr (fun _ => False) w w7 := ((HF4.out.step HFR.out (fun k hk => .inr (by omega))).also HF6.out).step hf7 (fun k hk => .inr (by have := HO1.out k hk; omega))
              have hf08 := Fr.also hf07 hf8
              have h8 := HH.out.keep hf08
              have c8 : w8.cell? ⟨b, 0, none⟩ = some (.slice A N C) := cell_of_ob h8.blk 0
              have z8 := frozen_of_ob h8.blk 0
              have HO := Lib.hid (HH.out.set hf08 hs8 (fun k hk => by have := ho8 k hk; have := hf07.size; omega))
              clear h8 hf07 hf08 hf7 hf8 hs7 hs8 ho7 ho8
              go_wp2
              go_ret
              rw [HRR.out]
              exact ⟨rfl, HO.out⟩
theorem MOut.late {b : Nat} {v : Value} {l' : List Ent} {w w1 w' : World} (hf : Fr (fun _ => False) w w1) (h : MOut b v l' w1 w') : MOut b v l' w w' := by
  obtain ⟨v', h1, h2, h3⟩ := h
  exact ⟨v', h1, fun k hk => (h2 k hk).imp_right (fun h => Nat.le_trans hf.size h), (hf.mono' (fun _ h => h.elim)).step h3 (fun k hk => .inl hk)⟩
theorem vProtecta {w : World} {b : Nat} {v : Value} {l : List Ent} (h : MT w b v l) (hl : l.length ≤ 390) (hr : rightB 0 l = true) (lo n : Int) (p : Int) (h0 : 0 ≤ p) (h1 : p ≤ 7) :
    Calls Try.prog 17 #[.pointer (some ⟨b, 0, none⟩), .int .i64 lo, .int .i64 n, .int .i64 p] w fun e w' => e = .returned (.int .i64 (setV l lo n (okP p) (mayP p) (prE p)).err) ∧ MOut b v (setV l lo n (okP p) (mayP p) (prE p)).l w w' := by
  have hok : (okP p) = true := decide_eq_true ⟨h0, h1⟩
  rw [hok]
  obtain ⟨W1, hW1⟩ : ∃ W1, w.alloc (.cells #[.int .i64 p] 3) = W1 := ⟨_, rfl⟩
  obtain ⟨bp, hbp⟩ : ∃ bp, w.heap.size = bp := ⟨_, rfl⟩
  have hf1 : Fr (fun _ => False) w W1 := by rw [← hW1]; exact (Fr.refl _ _).alloc _
  have hp1 : ob W1 bp = some (.cells #[.int .i64 p] 3 (0, 0)) := by rw [← hW1, ← hbp]; exact ob_new _ _
  have hal := allProtect (h.keep hf1) hl hr hp1 (by have := h.lt; omega) lo n true (fun _ => sets_pr hok)
  have c1 : W1.cell? ⟨bp, 0, none⟩ = some (.int .i64 p) := cell_of_ob hp1 0
  have s1 := ob_lt hp1
  have HF := Lib.hid hf1
  clear hf1 hp1 h hr hok
  go_enter Try.func17, Try.ntmps17
  go_wp2_with fail
  try rw [hW1, hbp]
  refine hal.mono ?_
  rintro e w2 ⟨rfl, ho⟩
  have HO := Lib.hid (ho.late HF.out)
  clear hal ho hW1 hbp c1
  go_wp2
  go_ret
  exact ⟨rfl, HO.out⟩
theorem vProtectb {w : World} {b : Nat} {v : Value} {l : List Ent} (h : MT w b v l) (hl : l.length ≤ 390) (hr : rightB 0 l = true) (lo n : Int) (p : Int) (h0 : 0 ≤ p) (h1 : ¬ p ≤ 7) :
    Calls Try.prog 17 #[.pointer (some ⟨b, 0, none⟩), .int .i64 lo, .int .i64 n, .int .i64 p] w fun e w' => e = .returned (.int .i64 (setV l lo n (okP p) (mayP p) (prE p)).err) ∧ MOut b v (setV l lo n (okP p) (mayP p) (prE p)).l w w' := by
  have hok : (okP p) = false := decide_eq_false (fun h => h1 h.2)
  rw [hok]
  obtain ⟨W1, hW1⟩ : ∃ W1, w.alloc (.cells #[.int .i64 p] 3) = W1 := ⟨_, rfl⟩
  obtain ⟨bp, hbp⟩ : ∃ bp, w.heap.size = bp := ⟨_, rfl⟩
  have hf1 : Fr (fun _ => False) w W1 := by rw [← hW1]; exact (Fr.refl _ _).alloc _
  have hp1 : ob W1 bp = some (.cells #[.int .i64 p] 3 (0, 0)) := by rw [← hW1, ← hbp]; exact ob_new _ _
  have hal := allProtect (h.keep hf1) hl hr hp1 (by have := h.lt; omega) lo n false (fun h => by cases h)
  have c1 : W1.cell? ⟨bp, 0, none⟩ = some (.int .i64 p) := cell_of_ob hp1 0
  have s1 := ob_lt hp1
  have HF := Lib.hid hf1
  clear hf1 hp1 h hr hok
  go_enter Try.func17, Try.ntmps17
  go_wp2_with fail
  try rw [hW1, hbp]
  refine hal.mono ?_
  rintro e w2 ⟨rfl, ho⟩
  have HO := Lib.hid (ho.late HF.out)
  clear hal ho hW1 hbp c1
  go_wp2
  go_ret
  exact ⟨rfl, HO.out⟩
theorem vProtectc {w : World} {b : Nat} {v : Value} {l : List Ent} (h : MT w b v l) (hl : l.length ≤ 390) (hr : rightB 0 l = true) (lo n : Int) (p : Int) (h0 : ¬ 0 ≤ p) :
    Calls Try.prog 17 #[.pointer (some ⟨b, 0, none⟩), .int .i64 lo, .int .i64 n, .int .i64 p] w fun e w' => e = .returned (.int .i64 (setV l lo n (okP p) (mayP p) (prE p)).err) ∧ MOut b v (setV l lo n (okP p) (mayP p) (prE p)).l w w' := by
  have hok : (okP p) = false := decide_eq_false (fun h => h0 h.1)
  rw [hok]
  obtain ⟨W1, hW1⟩ : ∃ W1, w.alloc (.cells #[.int .i64 p] 3) = W1 := ⟨_, rfl⟩
  obtain ⟨bp, hbp⟩ : ∃ bp, w.heap.size = bp := ⟨_, rfl⟩
  have hf1 : Fr (fun _ => False) w W1 := by rw [← hW1]; exact (Fr.refl _ _).alloc _
  have hp1 : ob W1 bp = some (.cells #[.int .i64 p] 3 (0, 0)) := by rw [← hW1, ← hbp]; exact ob_new _ _
  have hal := allProtect (h.keep hf1) hl hr hp1 (by have := h.lt; omega) lo n false (fun h => by cases h)
  have c1 : W1.cell? ⟨bp, 0, none⟩ = some (.int .i64 p) := cell_of_ob hp1 0
  have s1 := ob_lt hp1
  have HF := Lib.hid hf1
  clear hf1 hp1 h hr hok
  go_enter Try.func17, Try.ntmps17
  go_wp2_with fail
  try rw [hW1, hbp]
  refine hal.mono ?_
  rintro e w2 ⟨rfl, ho⟩
  have HO := Lib.hid (ho.late HF.out)
  clear hal ho hW1 hbp c1
  go_wp2
  go_ret
  exact ⟨rfl, HO.out⟩
theorem vProtect {w : World} {b : Nat} {v : Value} {l : List Ent} (h : MT w b v l) (hl : l.length ≤ 390) (hr : rightB 0 l = true) (lo n : Int) (p : Int) :
    Calls Try.prog 17 #[.pointer (some ⟨b, 0, none⟩), .int .i64 lo, .int .i64 n, .int .i64 p] w fun e w' => e = .returned (.int .i64 (setV l lo n (okP p) (mayP p) (prE p)).err) ∧ MOut b v (setV l lo n (okP p) (mayP p) (prE p)).l w w' := by
  by_cases h0 : 0 ≤ p
  · by_cases h1 : p ≤ 7
    · exact vProtecta h hl hr lo n p h0 h1
    · exact vProtectb h hl hr lo n p h0 h1
  · exact vProtectc h hl hr lo n p h0
theorem vInherita {w : World} {b : Nat} {v : Value} {l : List Ent} (h : MT w b v l) (hl : l.length ≤ 390) (hr : rightB 0 l = true) (lo n : Int) (p : Int) (h0 : 0 ≤ p) (h1 : p ≤ 2) :
    Calls Try.prog 14 #[.pointer (some ⟨b, 0, none⟩), .int .i64 lo, .int .i64 n, .int .i64 p] w fun e w' => e = .returned (.int .i64 (setV l lo n (okI p) anyE (inE p)).err) ∧ MOut b v (setV l lo n (okI p) anyE (inE p)).l w w' := by
  have hok : (okI p) = true := decide_eq_true ⟨h0, h1⟩
  rw [hok]
  obtain ⟨W1, hW1⟩ : ∃ W1, w.alloc (.cells #[.int .i64 p] 3) = W1 := ⟨_, rfl⟩
  obtain ⟨bp, hbp⟩ : ∃ bp, w.heap.size = bp := ⟨_, rfl⟩
  have hf1 : Fr (fun _ => False) w W1 := by rw [← hW1]; exact (Fr.refl _ _).alloc _
  have hp1 : ob W1 bp = some (.cells #[.int .i64 p] 3 (0, 0)) := by rw [← hW1, ← hbp]; exact ob_new _ _
  have hal := allInherit (h.keep hf1) hl hr hp1 (by have := h.lt; omega) lo n true (fun _ => sets_in hok)
  have c1 : W1.cell? ⟨bp, 0, none⟩ = some (.int .i64 p) := cell_of_ob hp1 0
  have s1 := ob_lt hp1
  have HF := Lib.hid hf1
  clear hf1 hp1 h hr hok
  go_enter Try.func14, Try.ntmps14
  go_wp2_with fail
  try rw [hW1, hbp]
  refine hal.mono ?_
  rintro e w2 ⟨rfl, ho⟩
  have HO := Lib.hid (ho.late HF.out)
  clear hal ho hW1 hbp c1
  go_wp2
  go_ret
  exact ⟨rfl, HO.out⟩
theorem vInheritb {w : World} {b : Nat} {v : Value} {l : List Ent} (h : MT w b v l) (hl : l.length ≤ 390) (hr : rightB 0 l = true) (lo n : Int) (p : Int) (h0 : 0 ≤ p) (h1 : ¬ p ≤ 2) :
    Calls Try.prog 14 #[.pointer (some ⟨b, 0, none⟩), .int .i64 lo, .int .i64 n, .int .i64 p] w fun e w' => e = .returned (.int .i64 (setV l lo n (okI p) anyE (inE p)).err) ∧ MOut b v (setV l lo n (okI p) anyE (inE p)).l w w' := by
  have hok : (okI p) = false := decide_eq_false (fun h => h1 h.2)
  rw [hok]
  obtain ⟨W1, hW1⟩ : ∃ W1, w.alloc (.cells #[.int .i64 p] 3) = W1 := ⟨_, rfl⟩
  obtain ⟨bp, hbp⟩ : ∃ bp, w.heap.size = bp := ⟨_, rfl⟩
  have hf1 : Fr (fun _ => False) w W1 := by rw [← hW1]; exact (Fr.refl _ _).alloc _
  have hp1 : ob W1 bp = some (.cells #[.int .i64 p] 3 (0, 0)) := by rw [← hW1, ← hbp]; exact ob_new _ _
  have hal := allInherit (h.keep hf1) hl hr hp1 (by have := h.lt; omega) lo n false (fun h => by cases h)
  have c1 : W1.cell? ⟨bp, 0, none⟩ = some (.int .i64 p) := cell_of_ob hp1 0
  have s1 := ob_lt hp1
  have HF := Lib.hid hf1
  clear hf1 hp1 h hr hok
  go_enter Try.func14, Try.ntmps14
  go_wp2_with fail
  try rw [hW1, hbp]
  refine hal.mono ?_
  rintro e w2 ⟨rfl, ho⟩
  have HO := Lib.hid (ho.late HF.out)
  clear hal ho hW1 hbp c1
  go_wp2
  go_ret
  exact ⟨rfl, HO.out⟩
theorem vInheritc {w : World} {b : Nat} {v : Value} {l : List Ent} (h : MT w b v l) (hl : l.length ≤ 390) (hr : rightB 0 l = true) (lo n : Int) (p : Int) (h0 : ¬ 0 ≤ p) :
    Calls Try.prog 14 #[.pointer (some ⟨b, 0, none⟩), .int .i64 lo, .int .i64 n, .int .i64 p] w fun e w' => e = .returned (.int .i64 (setV l lo n (okI p) anyE (inE p)).err) ∧ MOut b v (setV l lo n (okI p) anyE (inE p)).l w w' := by
  have hok : (okI p) = false := decide_eq_false (fun h => h0 h.1)
  rw [hok]
  obtain ⟨W1, hW1⟩ : ∃ W1, w.alloc (.cells #[.int .i64 p] 3) = W1 := ⟨_, rfl⟩
  obtain ⟨bp, hbp⟩ : ∃ bp, w.heap.size = bp := ⟨_, rfl⟩
  have hf1 : Fr (fun _ => False) w W1 := by rw [← hW1]; exact (Fr.refl _ _).alloc _
  have hp1 : ob W1 bp = some (.cells #[.int .i64 p] 3 (0, 0)) := by rw [← hW1, ← hbp]; exact ob_new _ _
  have hal := allInherit (h.keep hf1) hl hr hp1 (by have := h.lt; omega) lo n false (fun h => by cases h)
  have c1 : W1.cell? ⟨bp, 0, none⟩ = some (.int .i64 p) := cell_of_ob hp1 0
  have s1 := ob_lt hp1
  have HF := Lib.hid hf1
  clear hf1 hp1 h hr hok
  go_enter Try.func14, Try.ntmps14
  go_wp2_with fail
  try rw [hW1, hbp]
  refine hal.mono ?_
  rintro e w2 ⟨rfl, ho⟩
  have HO := Lib.hid (ho.late HF.out)
  clear hal ho hW1 hbp c1
  go_wp2
  go_ret
  exact ⟨rfl, HO.out⟩
theorem vInherit {w : World} {b : Nat} {v : Value} {l : List Ent} (h : MT w b v l) (hl : l.length ≤ 390) (hr : rightB 0 l = true) (lo n : Int) (p : Int) :
    Calls Try.prog 14 #[.pointer (some ⟨b, 0, none⟩), .int .i64 lo, .int .i64 n, .int .i64 p] w fun e w' => e = .returned (.int .i64 (setV l lo n (okI p) anyE (inE p)).err) ∧ MOut b v (setV l lo n (okI p) anyE (inE p)).l w w' := by
  by_cases h0 : 0 ≤ p
  · by_cases h1 : p ≤ 2
    · exact vInherita h hl hr lo n p h0 h1
    · exact vInheritb h hl hr lo n p h0 h1
  · exact vInheritc h hl hr lo n p h0
theorem vAdvisea {w : World} {b : Nat} {v : Value} {l : List Ent} (h : MT w b v l) (hl : l.length ≤ 390) (hr : rightB 0 l = true) (lo n : Int) (p : Int) (h0 : 0 ≤ p) (h1 : p ≤ 4) :
    Calls Try.prog 15 #[.pointer (some ⟨b, 0, none⟩), .int .i64 lo, .int .i64 n, .int .i64 p] w fun e w' => e = .returned (.int .i64 (setV l lo n (okA p) anyE (adE p)).err) ∧ MOut b v (setV l lo n (okA p) anyE (adE p)).l w w' := by
  have hok : (okA p) = true := decide_eq_true ⟨h0, h1⟩
  rw [hok]
  obtain ⟨W1, hW1⟩ : ∃ W1, w.alloc (.cells #[.int .i64 p] 3) = W1 := ⟨_, rfl⟩
  obtain ⟨bp, hbp⟩ : ∃ bp, w.heap.size = bp := ⟨_, rfl⟩
  have hf1 : Fr (fun _ => False) w W1 := by rw [← hW1]; exact (Fr.refl _ _).alloc _
  have hp1 : ob W1 bp = some (.cells #[.int .i64 p] 3 (0, 0)) := by rw [← hW1, ← hbp]; exact ob_new _ _
  have hal := allAdvise (h.keep hf1) hl hr hp1 (by have := h.lt; omega) lo n true (fun _ => sets_ad hok)
  have c1 : W1.cell? ⟨bp, 0, none⟩ = some (.int .i64 p) := cell_of_ob hp1 0
  have s1 := ob_lt hp1
  have HF := Lib.hid hf1
  clear hf1 hp1 h hr hok
  go_enter Try.func15, Try.ntmps15
  go_wp2_with fail
  try rw [hW1, hbp]
  refine hal.mono ?_
  rintro e w2 ⟨rfl, ho⟩
  have HO := Lib.hid (ho.late HF.out)
  clear hal ho hW1 hbp c1
  go_wp2
  go_ret
  exact ⟨rfl, HO.out⟩
theorem vAdviseb {w : World} {b : Nat} {v : Value} {l : List Ent} (h : MT w b v l) (hl : l.length ≤ 390) (hr : rightB 0 l = true) (lo n : Int) (p : Int) (h0 : 0 ≤ p) (h1 : ¬ p ≤ 4) :
    Calls Try.prog 15 #[.pointer (some ⟨b, 0, none⟩), .int .i64 lo, .int .i64 n, .int .i64 p] w fun e w' => e = .returned (.int .i64 (setV l lo n (okA p) anyE (adE p)).err) ∧ MOut b v (setV l lo n (okA p) anyE (adE p)).l w w' := by
  have hok : (okA p) = false := decide_eq_false (fun h => h1 h.2)
  rw [hok]
  obtain ⟨W1, hW1⟩ : ∃ W1, w.alloc (.cells #[.int .i64 p] 3) = W1 := ⟨_, rfl⟩
  obtain ⟨bp, hbp⟩ : ∃ bp, w.heap.size = bp := ⟨_, rfl⟩
  have hf1 : Fr (fun _ => False) w W1 := by rw [← hW1]; exact (Fr.refl _ _).alloc _
  have hp1 : ob W1 bp = some (.cells #[.int .i64 p] 3 (0, 0)) := by rw [← hW1, ← hbp]; exact ob_new _ _
  have hal := allAdvise (h.keep hf1) hl hr hp1 (by have := h.lt; omega) lo n false (fun h => by cases h)
  have c1 : W1.cell? ⟨bp, 0, none⟩ = some (.int .i64 p) := cell_of_ob hp1 0
  have s1 := ob_lt hp1
  have HF := Lib.hid hf1
  clear hf1 hp1 h hr hok
  go_enter Try.func15, Try.ntmps15
  go_wp2_with fail
  try rw [hW1, hbp]
  refine hal.mono ?_
  rintro e w2 ⟨rfl, ho⟩
  have HO := Lib.hid (ho.late HF.out)
  clear hal ho hW1 hbp c1
  go_wp2
  go_ret
  exact ⟨rfl, HO.out⟩
theorem vAdvisec {w : World} {b : Nat} {v : Value} {l : List Ent} (h : MT w b v l) (hl : l.length ≤ 390) (hr : rightB 0 l = true) (lo n : Int) (p : Int) (h0 : ¬ 0 ≤ p) :
    Calls Try.prog 15 #[.pointer (some ⟨b, 0, none⟩), .int .i64 lo, .int .i64 n, .int .i64 p] w fun e w' => e = .returned (.int .i64 (setV l lo n (okA p) anyE (adE p)).err) ∧ MOut b v (setV l lo n (okA p) anyE (adE p)).l w w' := by
  have hok : (okA p) = false := decide_eq_false (fun h => h0 h.1)
  rw [hok]
  obtain ⟨W1, hW1⟩ : ∃ W1, w.alloc (.cells #[.int .i64 p] 3) = W1 := ⟨_, rfl⟩
  obtain ⟨bp, hbp⟩ : ∃ bp, w.heap.size = bp := ⟨_, rfl⟩
  have hf1 : Fr (fun _ => False) w W1 := by rw [← hW1]; exact (Fr.refl _ _).alloc _
  have hp1 : ob W1 bp = some (.cells #[.int .i64 p] 3 (0, 0)) := by rw [← hW1, ← hbp]; exact ob_new _ _
  have hal := allAdvise (h.keep hf1) hl hr hp1 (by have := h.lt; omega) lo n false (fun h => by cases h)
  have c1 : W1.cell? ⟨bp, 0, none⟩ = some (.int .i64 p) := cell_of_ob hp1 0
  have s1 := ob_lt hp1
  have HF := Lib.hid hf1
  clear hf1 hp1 h hr hok
  go_enter Try.func15, Try.ntmps15
  go_wp2_with fail
  try rw [hW1, hbp]
  refine hal.mono ?_
  rintro e w2 ⟨rfl, ho⟩
  have HO := Lib.hid (ho.late HF.out)
  clear hal ho hW1 hbp c1
  go_wp2
  go_ret
  exact ⟨rfl, HO.out⟩
theorem vAdvise {w : World} {b : Nat} {v : Value} {l : List Ent} (h : MT w b v l) (hl : l.length ≤ 390) (hr : rightB 0 l = true) (lo n : Int) (p : Int) :
    Calls Try.prog 15 #[.pointer (some ⟨b, 0, none⟩), .int .i64 lo, .int .i64 n, .int .i64 p] w fun e w' => e = .returned (.int .i64 (setV l lo n (okA p) anyE (adE p)).err) ∧ MOut b v (setV l lo n (okA p) anyE (adE p)).l w w' := by
  by_cases h0 : 0 ≤ p
  · by_cases h1 : p ≤ 4
    · exact vAdvisea h hl hr lo n p h0 h1
    · exact vAdviseb h hl hr lo n p h0 h1
  · exact vAdvisec h hl hr lo n p h0
theorem vWire {w : World} {b : Nat} {v : Value} {l : List Ent} (h : MT w b v l) (hl : l.length ≤ 390) (hr : rightB 0 l = true) (lo n : Int) (p : Bool)  :
    Calls Try.prog 16 #[.pointer (some ⟨b, 0, none⟩), .int .i64 lo, .int .i64 n, .bool p] w fun e w' => e = .returned (.int .i64 (setV l lo n true anyE (wiE p)).err) ∧ MOut b v (setV l lo n true anyE (wiE p)).l w w' := by
  have hok : true = true := rfl
  rw [hok]
  obtain ⟨W1, hW1⟩ : ∃ W1, w.alloc (.cells #[.bool p] 4) = W1 := ⟨_, rfl⟩
  obtain ⟨bp, hbp⟩ : ∃ bp, w.heap.size = bp := ⟨_, rfl⟩
  have hf1 : Fr (fun _ => False) w W1 := by rw [← hW1]; exact (Fr.refl _ _).alloc _
  have hp1 : ob W1 bp = some (.cells #[.bool p] 4 (0, 0)) := by rw [← hW1, ← hbp]; exact ob_new _ _
  have hal := allWire (h.keep hf1) hl hr hp1 (by have := h.lt; omega) lo n true (fun _ => sets_wi p)
  have c1 : W1.cell? ⟨bp, 0, none⟩ = some (.bool p) := cell_of_ob hp1 0
  have s1 := ob_lt hp1
  have HF := Lib.hid hf1
  clear hf1 hp1 h hr hok
  go_enter Try.func16, Try.ntmps16
  go_wp2_with fail
  try rw [hW1, hbp]
  refine hal.mono ?_
  rintro e w2 ⟨rfl, ho⟩
  have HO := Lib.hid (ho.late HF.out)
  clear hal ho hW1 hbp c1
  go_wp2
  go_ret
  exact ⟨rfl, HO.out⟩
end Go.Proofs.Ytopglbkcciigbaa
