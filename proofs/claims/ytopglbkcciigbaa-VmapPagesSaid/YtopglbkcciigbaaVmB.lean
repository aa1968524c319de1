/- vmap.Map.Map. Conditions: at most 390 entries, right. -/
import Derived.Test.YtopglbkcciigbaaVmA
import Derived.Test.YtopglbkcciigbaaEnRoom
namespace Go.Proofs.Ytopglbkcciigbaa
open Go.RowKit
set_option linter.unusedSimpArgs false
set_option linter.unusedVariables false
attribute [local go_sem] Oper.semAt_some
/-- What Map leaves. -/
def MapOut (b : Nat) (v : Value) (R : VR) (w : World) (e : Ending) (w' : World) : Prop :=
  ∃ g, e = .returned (.tuple #[.int .i64 R.n, g, .int .i64 R.err]) ∧ SE w' g R.gone ∧ (∀ k, g.ownBlock = some k → w.heap.size ≤ k ∧ k ≠ b) ∧ MOut b v R.l w w'
section
variable {w w1 : World} {b : Nat} {v : Value} {l : List Ent}
theorem MapOut.none {n er : Int} (h : MT w b v l) (hf : Fr (fun _ => False) w w1) : MapOut b v ⟨n, [], er, l⟩ w (.returned (.tuple #[.int .i64 n, .slice none 0 0, .int .i64 er])) w1 := ⟨_, rfl, Sl.nil _ _ _, (fun k hk => by cases hk), h.same hf⟩
set_option maxRecDepth 100000 in
set_option maxHeartbeats 2000000 in
theorem map_bad (h : MT w b v l) (a : Int) (x : Ent) (hx : WfE x) (fx : Bool) (hc : x.s < 0 ∨ x.e ≤ x.s ∨ 4096 < x.e - x.s) :
    Calls Try.prog 25 #[.pointer (some ⟨b, 0, none⟩), .int .i64 a, .agg #[.int .i64 x.s, .int .i64 x.e, .int .i64 x.f, .int .i64 x.o, .bool x.sh, .int .i64 x.pr, .int .i64 x.mx, .int .i64 x.inh, .int .i64 x.adv, .bool x.wi], .bool fx] w (MapOut b v ⟨0, [], 2, l⟩ w) := by
  obtain ⟨k0, k1⟩ := wf_i64 hx.s
  obtain ⟨k2, k3⟩ := wf_i64 hx.e
  have HH := Lib.hid h
  have hm := made_any (h.keep ((Fr.refl _ _).alloc (.cells #[.int .i64 x.s, .int .i64 x.e, .int .i64 x.f, .int .i64 x.o, .bool x.sh, .int .i64 x.pr, .int .i64 x.mx, .int .i64 x.inh, .int .i64 x.adv, .bool x.wi] 28)))
  have HFA := Lib.hid (show Fr (fun _ => False) w (w.alloc (.cells #[.int .i64 x.s, .int .i64 x.e, .int .i64 x.f, .int .i64 x.o, .bool x.sh, .int .i64 x.pr, .int .i64 x.mx, .int .i64 x.inh, .int .i64 x.adv, .bool x.wi] 28)) from (Fr.refl _ _).alloc _)
  clear h hx
  by_cases h1 : x.s < 0
  · clear hc
    go_enter Try.func25, Try.ntmps25
    go_wp2_with fail
    refine hm.mono ?_
    rintro e w1 ⟨rfl, hw⟩; rw [hw]; clear hw w1 hm
    go_wp2
    go_ret3
    exact MapOut.none HH.out HFA.out
  · by_cases h2 : x.e ≤ x.s
    · clear hc
      go_enter Try.func25, Try.ntmps25
      go_wp2_with fail
      refine hm.mono ?_
      rintro e w1 ⟨rfl, hw⟩; rw [hw]; clear hw w1 hm
      go_wp2
      go_ret3
      exact MapOut.none HH.out HFA.out
    · have h3 : 4096 < x.e - x.s := by omega
      clear hc
      go_enter Try.func25, Try.ntmps25
      go_wp2_with fail
      refine hm.mono ?_
      rintro e w1 ⟨rfl, hw⟩; rw [hw]; clear hw w1 hm
      go_wp2
      go_ret3
      exact MapOut.none HH.out HFA.out
set_option maxRecDepth 100000 in
set_option maxHeartbeats 4000000 in
theorem map_good (h : MT w b v l) (hl : l.length ≤ 390) (hr : rightB 0 l = true) (a : Int) (x : Ent) (hx : WfE x) (fx : Bool) (h1 : ¬ x.s < 0) (h2 : ¬ x.e ≤ x.s) (h3 : ¬ 4096 < x.e - x.s) :
    Calls Try.prog 25 #[.pointer (some ⟨b, 0, none⟩), .int .i64 a, .agg #[.int .i64 x.s, .int .i64 x.e, .int .i64 x.f, .int .i64 x.o, .bool x.sh, .int .i64 x.pr, .int .i64 x.mx, .int .i64 x.inh, .int .i64 x.adv, .bool x.wi], .bool fx] w (MapOut b v (mapV l a x fx) w) := by
  obtain ⟨k0, k1⟩ := wf_i64 hx.s
  obtain ⟨k2, k3⟩ := wf_i64 hx.e
  obtain ⟨n, hn⟩ : ∃ n, x.e - x.s = n := ⟨_, rfl⟩
  have hR : mapV l a x fx = if goodB (mk10 0 n x.f x.o x.sh x.pr x.mx x.inh x.adv x.wi) = false ∨ (fx = true ∧ withinB a n = false) then ⟨0, [], 2, l⟩
      else if fx = true then ⟨a, goneL l a (a + n), 0, mergeL (insL (leftL l a (a + n)) (mk10 a (a + n) x.f x.o x.sh x.pr x.mx x.inh x.adv x.wi))⟩
      else if (spaceF l a n).2 = true then ⟨(spaceF l a n).1, [], 0, mergeL (insL l (mk10 (spaceF l a n).1 ((spaceF l a n).1 + n) x.f x.o x.sh x.pr x.mx x.inh x.adv x.wi))⟩
      else ⟨0, [], 5, l⟩ := by
    unfold mapV
    rw [if_neg (by omega)]
    simp only [atE, hn, mk10, Int.zero_add]
    rfl
  obtain ⟨R, hRR⟩ : ∃ R, mapV l a x fx = R := ⟨_, rfl⟩
  rw [hRR] at hR ⊢
  have HR := Lib.hid hR
  have hWfm : ∀ c d, -9223372036854775808 ≤ c → c < 9223372036854775808 → -9223372036854775808 ≤ d → d < 9223372036854775808 → WfE (mk10 c d x.f x.o x.sh x.pr x.mx x.inh x.adv x.wi) := fun c d a1 a2 a3 a4 => ⟨wf64_of a1 a2, wf64_of a3 a4, hx.f, hx.o, hx.pr, hx.mx, hx.inh, hx.adv⟩
  have hgood := fun W => good_any (mk10 0 n x.f x.o x.sh x.pr x.mx x.inh x.adv x.wi) (hWfm 0 n (by omega) (by omega) (by omega) (by omega)) W
  have HWF := Lib.hid hWfm
  have HH := Lib.hid h
  have HRT := Lib.hid hr
  have hm := made_any (h.keep ((Fr.refl _ _).alloc (.cells #[.int .i64 x.s, .int .i64 x.e, .int .i64 x.f, .int .i64 x.o, .bool x.sh, .int .i64 x.pr, .int .i64 x.mx, .int .i64 x.inh, .int .i64 x.adv, .bool x.wi] 28)))
  have s0 := h.lt
  have hn1 : 1 ≤ n := by omega
  have hn2 : n ≤ 4096 := by omega
  obtain ⟨gb, hgb⟩ : ∃ gb, goodB (mk10 0 n x.f x.o x.sh x.pr x.mx x.inh x.adv x.wi) = gb := ⟨_, rfl⟩
  simp only [hgb] at hgood
  have HGB := Lib.hid hgb
  clear hR hRR hWfm hgb hr hx h3
  obtain ⟨xs, xe, xf, xo, xsh, xpr, xmx, xin, xad, xwi⟩ := x
  dsimp only at *
  go_enter Try.func25, Try.ntmps25
  go_wp2_with fail
  refine hm.mono ?_
  rintro e w1 ⟨rfl, hw⟩; rw [hw]; clear hw w1 hm
  have hn3 : ¬ 4096 < xe - xs := by omega
  go_upto_region 7 with fail
  try simp only [hn]
  obtain ⟨bx, hbx⟩ : ∃ bx, w.heap.size = bx := ⟨_, rfl⟩
  obtain ⟨W1, hW1⟩ : ∃ W1, w.alloc (.cells #[.int .i64 0, .int .i64 n, .int .i64 xf, .int .i64 xo, .bool xsh, .int .i64 xpr, .int .i64 xmx, .int .i64 xin, .int .i64 xad, .bool xwi] 28) = W1 := ⟨_, rfl⟩
  have hob1 : ob W1 bx = some (.cells #[.int .i64 0, .int .i64 n, .int .i64 xf, .int .i64 xo, .bool xsh, .int .i64 xpr, .int .i64 xmx, .int .i64 xin, .int .i64 xad, .bool xwi] 28 (0, 0)) := by rw [← hW1, ← hbx]; exact ob_new _ _
  have hf1 : Fr (fun _ => False) w W1 := by rw [← hW1]; exact (Fr.refl _ _).alloc _
  rw [hW1, hbx]
  have HBX := Lib.hid hbx
  have sb : b < bx := by omega
  clear hW1 hbx hn3
  have e1 := fun i => cell_of_ob hob1 i
  have q0 : W1.cell? ⟨bx, 0, none⟩ = some (.int .i64 0) := e1 0
  have q1 : W1.cell? ⟨bx, 1, none⟩ = some (.int .i64 n) := e1 1
  have q2 : W1.cell? ⟨bx, 2, none⟩ = some (.int .i64 xf) := e1 2
  have q3 : W1.cell? ⟨bx, 3, none⟩ = some (.int .i64 xo) := e1 3
  have q4 : W1.cell? ⟨bx, 4, none⟩ = some (.bool xsh) := e1 4
  have q5 : W1.cell? ⟨bx, 5, none⟩ = some (.int .i64 xpr) := e1 5
  have q6 : W1.cell? ⟨bx, 6, none⟩ = some (.int .i64 xmx) := e1 6
  have q7 : W1.cell? ⟨bx, 7, none⟩ = some (.int .i64 xin) := e1 7
  have q8 : W1.cell? ⟨bx, 8, none⟩ = some (.int .i64 xad) := e1 8
  have q9 : W1.cell? ⟨bx, 9, none⟩ = some (.bool xwi) := e1 9
  clear e1
  simp only [mk10] at hgood
  have HF1 := Lib.hid hf1
  have HOB1 := Lib.hid hob1
  have HL := Lib.hid hl
  clear hf1 hob1 hl h
  go_wp2_with fail
  refine (hgood _).mono ?_
  rintro e w2 ⟨rfl, hf2⟩
  clear hgood q0 q1 q2 q3 q4 q5 q6 q7 q8 q9
  have hfw2 := Fr.also HF1.out hf2
  have hob2 := hf2.keep (fun h => h) HOB1.out
  have h2 := HH.out.keep hfw2
  have HF2 := Lib.hid hfw2
  have HOB2 := Lib.hid hob2
  cases gb with
  | false =>
    have HRR : Hid (R = ⟨0, [], 2, l⟩) := Lib.hid (by rw [HR.out, HGB.out]; simp)
    clear hf2 hfw2 hob2 h2
    go_wp2
    go_ret3
    rw [HRR.out]
    exact MapOut.none HH.out HF2.out
  | true =>
    cases fx with
    | true =>
      have hwi := within_any a n w2
      cases hq : withinB a n with
      | false =>
        have HRR : Hid (R = ⟨0, [], 2, l⟩) := Lib.hid (by rw [HR.out, HGB.out, hq]; simp)
        rw [hq] at hwi
        clear hf2 hfw2 hob2 h2 hq
        go_wp2_with fail
        refine hwi.mono ?_
        rintro e w3 ⟨rfl, hw⟩; rw [hw]; clear hw w3
        go_wp2
        go_ret3
        rw [HRR.out]
        exact MapOut.none HH.out HF2.out
      | true =>
        have HRR : Hid (R = ⟨a, goneL l a (a + n), 0, mergeL (insL (leftL l a (a + n)) (mk10 a (a + n) xf xo xsh xpr xmx xin xad xwi))⟩) := Lib.hid (by rw [HR.out, HGB.out, hq]; simp)
        rw [hq] at hwi
        obtain ⟨g1, g2, g3, g4⟩ := withinB_iff.1 hq
        have c0 : w2.cell? ⟨b, 0, none⟩ = some v := cell_of_ob h2.blk 0
        have s2 := h2.lt
        have hcu := cut_any (Sl.rd h2.sl) (by have := HL.out; omega) HRT.out a (a + n)
        clear hf2 hfw2 hob2 h2 hq
        go_wp2_with fail
        refine hwi.mono ?_
        rintro e w3 ⟨rfl, hw⟩; rw [hw]; clear hw w3 hwi
        go_wp2_with fail
        refine hcu.mono ?_
        rintro e w4 ⟨v1, v2, rfl, hs1, hs2, hf3, ho1, ho2⟩
        clear hcu c0 s2
        have hob4 := hf3.keep (fun h => h) HOB2.out
        have hf4 := Fr.also HF2.out hf3
        have e4 := fun i => cell_of_ob hob4 i
        have z4 := fun i => frozen_of_ob hob4 i
        have sb4 := ob_lt hob4
        have HS1 := Lib.hid hs1
        have HO1 := Lib.hid ho1
        have HS2' := Lib.hid hs2
        have HO2 := Lib.hid ho2
        have HF3 := Lib.hid hf3
        clear hs1 ho1 hs2 ho2 hf3
        go_upto_region 18 with fail
        have hob5 : ob ((w4.setCell ⟨bx, 0, none⟩ (.int .i64 a)).setCell ⟨bx, 1, none⟩ (.int .i64 (a + n))) bx = some (.cells #[.int .i64 a, .int .i64 (a + n), .int .i64 xf, .int .i64 xo, .bool xsh, .int .i64 xpr, .int .i64 xmx, .int .i64 xin, .int .i64 xad, .bool xwi] 28 (0, 0)) := by
          rw [ob_setCell_same (ob_setCell_same hob4 _)]
          simp
        have hf5 : Fr (fun _ => False) w ((w4.setCell ⟨bx, 0, none⟩ (.int .i64 a)).setCell ⟨bx, 1, none⟩ (.int .i64 (a + n))) := ((hf4.setCell _ _ (.inr (by have := HBX.out; show w.heap.size ≤ bx; omega))).setCell _ _ (.inr (by have := HBX.out; show w.heap.size ≤ bx; omega)))
        obtain ⟨W5, hW5⟩ : ∃ W5, (w4.setCell ⟨bx, 0, none⟩ (.int .i64 a)).setCell ⟨bx, 1, none⟩ (.int .i64 (a + n)) = W5 := ⟨_, rfl⟩
        rw [hW5] at hob5 hf5
        have hin := insert_any (Sl.rd (Sl.of (w1 := W5) HS1.out (fun k hk => by rw [← hW5, ob_setCell _ _ _ _ (by have := HO1.out k hk; have := ob_lt HOB2.out; show k ≠ bx; omega), ob_setCell _ _ _ _ (by have := HO1.out k hk; have := ob_lt HOB2.out; show k ≠ bx; omega)]))) (by have := left_len a (a + n) HRT.out; have := HL.out; omega) (right_left a (a + n) HRT.out) (mk10 a (a + n) xf xo xsh xpr xmx xin xad xwi) (HWF.out _ _ (by omega) (by omega) (by omega) (by omega))
        have HS2 := Lib.hid (show ∀ w9, Fr (fun _ => False) W5 w9 → ∀ u, SE (w9.setCell ⟨b, 0, none⟩ u) v2 (goneL l a (a + n)) ∧ ∀ k, v2.ownBlock = some k → w.heap.size ≤ k ∧ k ≠ b from fun w9 h9 u => ⟨Sl.of (Sl.fr (Sl.of (w1 := W5) HS2'.out (fun k hk => by rw [← hW5, ob_setCell _ _ _ _ (by have := HO2.out k hk; have := ob_lt HOB2.out; show k ≠ bx; omega), ob_setCell _ _ _ _ (by have := HO2.out k hk; have := ob_lt HOB2.out; show k ≠ bx; omega)])) h9 (fun _ _ h => h)) (fun k hk => ob_setCell _ _ _ _ (by have := HO2.out k hk; have := ob_lt HOB2.out; show k ≠ b; omega)), fun k hk => by have := HO2.out k hk; have := ob_lt HOB2.out; have := HBX.out; exact ⟨by omega, by omega⟩⟩)
        have e5 : ∀ i u, (#[Value.int .i64 a, .int .i64 (a + n), .int .i64 xf, .int .i64 xo, .bool xsh, .int .i64 xpr, .int .i64 xmx, .int .i64 xin, .int .i64 xad, .bool xwi] : Array Value)[i]? = some u → W5.cell? ⟨bx, i, none⟩ = some u := fun i u hu => by rw [cell_of_ob hob5]; exact hu
        have q0 := e5 0 _ rfl
        have q1 := e5 1 _ rfl
        have q2 := e5 2 _ rfl
        have q3 := e5 3 _ rfl
        have q4 := e5 4 _ rfl
        have q5 := e5 5 _ rfl
        have q6 := e5 6 _ rfl
        have q7 := e5 7 _ rfl
        have q8 := e5 8 _ rfl
        have q9 := e5 9 _ rfl
        clear e5
        have HF5 := Lib.hid hf5
        have sb5 := ob_lt hob5
        have HOLD := Lib.hid hob4
        clear hob4 hf4 hf5 hob5 e4 z4
        rw [hW5]
        clear hW5 HOLD
        simp only [mk10] at hin
        go_wp2_with fail
        refine hin.mono ?_
        rintro e w6 ⟨v6, rfl, hs6, hf6, ho6⟩
        obtain ⟨A6, N6, C6, rfl⟩ := hs6.shape
        have hme := merge_any (Sl.rd hs6) (Nat.le_trans (insL_len _ _) (by have := left_len a (a + n) HRT.out; have := HL.out; omega)) (right_insL (right_left a (a + n) HRT.out))
        clear hin q0 q1 q2 q3 q4 q5 q6 q7 q8 q9
        go_wp2_with fail
        refine hme.mono ?_
        rintro e w7 ⟨v7, rfl, hs7, hf7, ho7⟩
        obtain ⟨A7, N7, C7, rfl⟩ := hs7.shape
        clear hme
        have hf67 := Fr.also hf6 hf7
        have hf77 := Fr.also HF5.out hf67
        have h7 := HH.out.keep hf77
        have c7 : w7.cell? ⟨b, 0, none⟩ = some v := cell_of_ob h7.blk 0
        have z7 := frozen_of_ob h7.blk 0
        have hout := HH.out.set hf77 hs7 (fun k hk => by have := ho7 k hk; have := hf6.size; have := HF5.out.size; omega)
        have HO := Lib.hid hout
        have HG := Lib.hid (HS2.out _ (Fr.also hf67 (Fr.refl _ _)) (.slice A7 N7 C7))
        clear hout h7 hf77 hf67 hf6 hf7 hs6 hs7 ho6 ho7 HS2
        go_wp2
        go_ret3
        rw [HRR.out]
        exact ⟨_, rfl, HG.out.1, HG.out.2, HO.out⟩
    | false =>
      obtain ⟨A0, N0, C0, hv⟩ := h2.sl.shape
      subst hv
      have hsp := space_any (Sl.rd h2.sl) (by have := HL.out; omega) HRT.out (Sl.ncap h2.sl) a n
      have c0 : w2.cell? ⟨b, 0, none⟩ = some (.slice A0 N0 C0) := cell_of_ob h2.blk 0
      have s2 := h2.lt
      have HVL := Lib.hid (show ∀ k, (Value.slice A0 N0 C0).ownBlock = some k → k < bx from fun k hk => by have := HH.out.sl.lt hk; have := HBX.out; omega)
      have HSY := Lib.hid (show ∀ a0, spaceF l a n = (a0, true) → SpaceOK l n a0 from fun a0 h0 => space_yes h0 HRT.out)
      obtain ⟨⟨at0, ok⟩, hat⟩ : ∃ r, spaceF l a n = r := ⟨_, rfl⟩
      rw [hat] at hsp
      have HAT := Lib.hid hat
      clear hf2 hfw2 hob2 h2 hat
      cases ok with
      | false =>
        have HRR : Hid (R = ⟨0, [], 5, l⟩) := Lib.hid (by rw [HR.out, HGB.out, HAT.out]; simp)
        go_wp2_with fail
        refine hsp.mono ?_
        rintro e w4 ⟨rfl, hf3⟩
        have HF4 := Lib.hid (Fr.also HF2.out hf3)
        clear hsp c0 s2 hf3
        go_wp2
        go_ret3
        rw [HRR.out]
        exact MapOut.none HH.out HF4.out
      | true =>
        have HRR : Hid (R = ⟨at0, [], 0, mergeL (insL l (mk10 at0 (at0 + n) xf xo xsh xpr xmx xin xad xwi))⟩) := Lib.hid (by rw [HR.out, HGB.out, HAT.out]; simp)
        obtain ⟨y1, y2, y3, y4, -⟩ := HSY.out _ HAT.out
        go_wp2_with fail
        refine hsp.mono ?_
        rintro e w4 ⟨rfl, hf3⟩
        clear hsp c0 s2
        have hob4 := hf3.keep (fun h => h) HOB2.out
        have hf4 := Fr.also HF2.out hf3
        have h4 := HH.out.keep hf4
        have e4 := fun i => cell_of_ob hob4 i
        have z4 := fun i => frozen_of_ob hob4 i
        have sb4 := ob_lt hob4
        clear hf3
        go_upto_region 18 with fail
        have hob5 : ob ((w4.setCell ⟨bx, 0, none⟩ (.int .i64 at0)).setCell ⟨bx, 1, none⟩ (.int .i64 (at0 + n))) bx = some (.cells #[.int .i64 at0, .int .i64 (at0 + n), .int .i64 xf, .int .i64 xo, .bool xsh, .int .i64 xpr, .int .i64 xmx, .int .i64 xin, .int .i64 xad, .bool xwi] 28 (0, 0)) := by
          rw [ob_setCell_same (ob_setCell_same hob4 _)]
          simp
        have hf5 : Fr (fun _ => False) w ((w4.setCell ⟨bx, 0, none⟩ (.int .i64 at0)).setCell ⟨bx, 1, none⟩ (.int .i64 (at0 + n))) := ((hf4.setCell _ _ (.inr (by have := HBX.out; show w.heap.size ≤ bx; omega))).setCell _ _ (.inr (by have := HBX.out; show w.heap.size ≤ bx; omega)))
        obtain ⟨W5, hW5⟩ : ∃ W5, (w4.setCell ⟨bx, 0, none⟩ (.int .i64 at0)).setCell ⟨bx, 1, none⟩ (.int .i64 (at0 + n)) = W5 := ⟨_, rfl⟩
        rw [hW5] at hob5 hf5
        have hin := insert_any (Sl.rd (Sl.of (w1 := W5) h4.sl (fun k hk => by rw [← hW5, ob_setCell _ _ _ _ (by have := HVL.out k hk; show k ≠ bx; omega), ob_setCell _ _ _ _ (by have := HVL.out k hk; show k ≠ bx; omega)]))) (by have := HL.out; omega) HRT.out (mk10 at0 (at0 + n) xf xo xsh xpr xmx xin xad xwi) (HWF.out _ _ (by omega) (by omega) (by omega) (by omega))
        have HS2 : Hid True := Lib.hid trivial
        have e5 : ∀ i u, (#[Value.int .i64 at0, .int .i64 (at0 + n), .int .i64 xf, .int .i64 xo, .bool xsh, .int .i64 xpr, .int .i64 xmx, .int .i64 xin, .int .i64 xad, .bool xwi] : Array Value)[i]? = some u → W5.cell? ⟨bx, i, none⟩ = some u := fun i u hu => by rw [cell_of_ob hob5]; exact hu
        have q0 := e5 0 _ rfl
        have q1 := e5 1 _ rfl
        have q2 := e5 2 _ rfl
        have q3 := e5 3 _ rfl
        have q4 := e5 4 _ rfl
        have q5 := e5 5 _ rfl
        have q6 := e5 6 _ rfl
        have q7 := e5 7 _ rfl
        have q8 := e5 8 _ rfl
        have q9 := e5 9 _ rfl
        clear e5
        have HF5 := Lib.hid hf5
        have sb5 := ob_lt hob5
        have HOLD := Lib.hid hob4
        clear hob4 hf4 hf5 hob5 e4 z4 h4
        rw [hW5]
        clear hW5 HOLD
        simp only [mk10] at hin
        go_wp2_with fail
        refine hin.mono ?_
        rintro e w6 ⟨v6, rfl, hs6, hf6, ho6⟩
        obtain ⟨A6, N6, C6, rfl⟩ := hs6.shape
        have hme := merge_any (Sl.rd hs6) (Nat.le_trans (insL_len _ _) (by have := HL.out; omega)) (right_insL HRT.out)
        clear hin q0 q1 q2 q3 q4 q5 q6 q7 q8 q9
        go_wp2_with fail
        refine hme.mono ?_
        rintro e w7 ⟨v7, rfl, hs7, hf7, ho7⟩
        obtain ⟨A7, N7, C7, rfl⟩ := hs7.shape
        clear hme
        have hf67 := Fr.also hf6 hf7
        have hf77 := Fr.also HF5.out hf67
        have h7 := HH.out.keep hf77
        have c7 : w7.cell? ⟨b, 0, none⟩ = some (.slice A0 N0 C0) := cell_of_ob h7.blk 0
        have z7 := frozen_of_ob h7.blk 0
        have hout := HH.out.set hf77 hs7 (fun k hk => by have := ho7 k hk; have := hf6.size; have := HF5.out.size; omega)
        have HO := Lib.hid hout
        have HG : Hid True := Lib.hid trivial
        clear hout h7 hf77 hf67 hf6 hf7 hs6 hs7 ho6 ho7 HS2
        go_wp2
        go_ret3
        rw [HRR.out]
        exact ⟨_, rfl, Sl.nil _ _ _, (fun k hk => by cases hk), HO.out⟩
theorem vmapm_any (h : MT w b v l) (hl : l.length ≤ 390) (hr : rightB 0 l = true) (a : Int) (x : Ent) (hx : WfE x) (fx : Bool) :
    Calls Try.prog 25 #[.pointer (some ⟨b, 0, none⟩), .int .i64 a, .agg #[.int .i64 x.s, .int .i64 x.e, .int .i64 x.f, .int .i64 x.o, .bool x.sh, .int .i64 x.pr, .int .i64 x.mx, .int .i64 x.inh, .int .i64 x.adv, .bool x.wi], .bool fx] w (MapOut b v (mapV l a x fx) w) := by
  by_cases hc : x.s < 0 ∨ x.e ≤ x.s ∨ 4096 < x.e - x.s
  · have h1 := map_bad h a x hx fx hc
    have h2 : mapV l a x fx = ⟨0, [], 2, l⟩ := by unfold mapV; rw [if_pos hc]
    rw [h2]
    exact h1
  · exact map_good h hl hr a x hx fx (fun e => hc (.inl e)) (fun e => hc (.inr (.inl e))) (fun e => hc (.inr (.inr e)))
end
end Go.Proofs.Ytopglbkcciigbaa
