/- VmapForks returns true: the walk. No conditions. -/
import Derived.Test.YtopglbkcciigbaaVmQ
namespace Go.Proofs.Ytopglbkcciigbaa
open Go.RowKit
set_option linter.unusedSimpArgs false
set_option linter.unusedVariables false
attribute [local go_sem] Oper.semAt_some
set_option maxRecDepth 100000 in
set_option maxHeartbeats 8000000 in
theorem forks_walk (W : World) (A : Option Addr) (N C : Nat) (acts : List VAct) (p : Int) (hx : Rd W 15 (.slice A N C) (acts.flatMap actC)) (hN : N = acts.length) (hw : ∀ a ∈ acts, WfA a) :
    Calls Try.prog 8 #[.slice A N C, .int .i64 p] W fun e w' => e = .returned (.bool true) ∧ Fr (fun _ => False) W w' := by
  have HN := Lib.hid hN
  have HW := Lib.hid hw
  have HX := Lib.hid (show ∀ w', Fr (fun _ => False) W w' → Rd w' 15 (.slice A N C) (acts.flatMap actC) from fun w' hf => hx.of hf (fun _ h => h.elim))
  clear hN hw hx
  by_cases hbig : 60 < N
  · go_enter Try.func8, Try.ntmps8
    go_wp2_with fail
    refine (vlives_any _).mono ?_
    rintro e w9 ⟨rfl, hf9⟩
    have HF9 := Lib.hid hf9
    clear hf9
    go_wp2
    go_ret
    exact ⟨rfl, HF9.out⟩
  · have hN6 : N ≤ 60 := by omega
    clear hbig
    go_enter Try.func8, Try.ntmps8
    go_wp2_with fail
    refine (vnew_any W).mono ?_
    rintro e w1 ⟨rfl, hm1, hf1⟩
    obtain ⟨b0, hb0⟩ : ∃ b0, W.heap.size = b0 := ⟨_, rfl⟩
    rw [hb0] at hm1
    simp only [hb0]
    have HI0 := Lib.hid (show Inv W w1 b0 (.slice none 0 0) [] 0 from ⟨VOK.nil, by simp, by omega, (fun k hk => by cases hk), hf1⟩)
    clear hb0 hf1
    go_wp2_with fail
    go_loopw [5, 20] (fun sm si wr => ∃ (t b : Nat) (v : Value) (l : List Ent), t ≤ N ∧ si = .int .i64 t ∧ sm = .pointer (some ⟨b, 0, none⟩) ∧ MT wr b v l ∧ Hid (Inv W wr b v l t)) (fun _ si _ => N - (intOf si).toNat)
    case atStart => exact ⟨0, b0, .slice none 0 0, [], Nat.zero_le _, rfl, rfl, hm1, HI0⟩
    case round =>
      clear hm1
      obtain ⟨t, b, v, l, ht, rfl, rfl, hm, HI⟩ := hrel
      by_cases hlt : t < N
      · obtain ⟨a, hat⟩ : ∃ a, acts[t]? = some a := ⟨_, List.getElem?_eq_getElem (by have := HN.out; omega)⟩
        obtain ⟨g, off, n', cap', heq, hgl, hcs⟩ := Rd.at actC_len (by decide) (HX.out wr HI.out.fr) hat
        cases heq
        have d0 : wr.cell? ⟨g, off + t * 15, none⟩ = some (.int .i64 a.kd) := hcs 0 _ rfl
        have d1 : wr.cell? ⟨g, off + t * 15 + 1, none⟩ = some (.int .i64 a.lo) := hcs 1 _ rfl
        have d2 : wr.cell? ⟨g, off + t * 15 + 2, none⟩ = some (.int .i64 a.pg) := hcs 2 _ rfl
        have d3 : wr.cell? ⟨g, off + t * 15 + 3, none⟩ = some (.int .i64 a.hw) := hcs 3 _ rfl
        have d4 : wr.cell? ⟨g, off + t * 15 + 4, none⟩ = some (.int .i64 a.x.s) := hcs 4 _ rfl
        have d5 : wr.cell? ⟨g, off + t * 15 + 5, none⟩ = some (.int .i64 a.x.e) := hcs 5 _ rfl
        have d6 : wr.cell? ⟨g, off + t * 15 + 6, none⟩ = some (.int .i64 a.x.f) := hcs 6 _ rfl
        have d7 : wr.cell? ⟨g, off + t * 15 + 7, none⟩ = some (.int .i64 a.x.o) := hcs 7 _ rfl
        have d8 : wr.cell? ⟨g, off + t * 15 + 8, none⟩ = some (.bool a.x.sh) := hcs 8 _ rfl
        have d9 : wr.cell? ⟨g, off + t * 15 + 9, none⟩ = some (.int .i64 a.x.pr) := hcs 9 _ rfl
        have d10 : wr.cell? ⟨g, off + t * 15 + 10, none⟩ = some (.int .i64 a.x.mx) := hcs 10 _ rfl
        have d11 : wr.cell? ⟨g, off + t * 15 + 11, none⟩ = some (.int .i64 a.x.inh) := hcs 11 _ rfl
        have d12 : wr.cell? ⟨g, off + t * 15 + 12, none⟩ = some (.int .i64 a.x.adv) := hcs 12 _ rfl
        have d13 : wr.cell? ⟨g, off + t * 15 + 13, none⟩ = some (.bool a.x.wi) := hcs 13 _ rfl
        have d14 : wr.cell? ⟨g, off + t * 15 + 14, none⟩ = some (.bool a.on) := hcs 14 _ rfl
        have HWA := Lib.hid (HW.out a (List.mem_of_getElem? hat))
        have hfa : Fr (fun _ => False) wr (wr.alloc (.cells #[.int .i64 a.kd, .int .i64 a.lo, .int .i64 a.pg, .int .i64 a.hw, .int .i64 a.x.s, .int .i64 a.x.e, .int .i64 a.x.f, .int .i64 a.x.o, .bool a.x.sh, .int .i64 a.x.pr, .int .i64 a.x.mx, .int .i64 a.x.inh, .int .i64 a.x.adv, .bool a.x.wi, .bool a.on] 30)) := (Fr.refl _ _).alloc _
        have hact := act_any (hm.keep hfa) (by have := HI.out.len; omega) HI.out.ok.right a HWA.out.x
        simp only [actC, ent, List.cons_append, List.nil_append] at hact
        have HFA := Lib.hid hfa
        clear hat hcs hgl hfa hm
        go_wp2_with fail
        refine hact.mono ?_
        rintro e w5 ⟨b', v', gn, rfl, hsg, hog, hm5, hkd, hov, hf5⟩
        have HNEW := Lib.hid (HI.out.act HFA.out HWA.out.x hkd hov hf5)
        have HM5 := Lib.hid hm5
        clear hact d0 d1 d2 d3 d4 d5 d6 d7 d8 d9 d10 d11 d12 d13 d14 hm5 hkd hov hf5 hsg hog
        go_wp2
        go_roundw
        case rel => exact ⟨t + 1, b', v', _, by omega, by go_num, rfl, HM5.out, HNEW⟩
        case measure => simp [intOf]; omega
      · obtain rfl : t = N := by omega
        have hl9 : l.length ≤ 180 := by have := HI.out.len; omega
        have hfk := vfork_any hm (by omega) HI.out.ok.right
        have HFO := Lib.hid (fork_ok HI.out.ok).1
        have HFL := Lib.hid (show (forkV l).length ≤ 180 from Nat.le_trans (fork_ok HI.out.ok).2 hl9)
        have HM := Lib.hid hm
        clear hm
        go_wp2_with fail
        refine hfk.mono ?_
        rintro e w2 ⟨bc, vc, rfl, hc, hbc, hoc, hf2⟩
        clear hfk
        have hat := vat_any (HM.out.keep hf2) (by omega) HI.out.ok.right p
        have HP := Lib.hid (fork_page (p := p) HI.out.ok.right)
        have HGY := Lib.hid (show fok l p = true → GoodE (atL l p) ∧ has (atL l p) p from at_good HI.out.ok.right)
        have HGZ := Lib.hid (show fok (forkV l) p = true → GoodE (atL (forkV l) p) ∧ has (atL (forkV l) p) p from at_good HFO.out.right)
        obtain ⟨⟨ys, ye, yf, yo, ysh, ypr, ymx, yin, yad, ywi⟩, hy⟩ : ∃ y, atL l p = y := ⟨_, rfl⟩
        obtain ⟨ok, hok⟩ : ∃ ok, fok l p = ok := ⟨_, rfl⟩
        rw [hy, hok] at hat HP HGY
        have HC := Lib.hid hc
        have HF2 := Lib.hid (HI.out.fr.also hf2)
        clear hy hok hc hbc hoc hf2
        go_wp2_with fail
        refine hat.mono ?_
        rintro e w3 ⟨rfl, hf3⟩
        clear hat
        have hfa : Fr (fun _ => False) w3 (w3.alloc (.cells #[.int .i64 ys, .int .i64 ye, .int .i64 yf, .int .i64 yo, .bool ysh, .int .i64 ypr, .int .i64 ymx, .int .i64 yin, .int .i64 yad, .bool ywi] 28)) := (Fr.refl _ _).alloc _
        have hat2 := vat_any (HC.out.keep (hf3.also hfa)) (by have := HFL.out; omega) HFO.out.right p
        obtain ⟨b9, hb9⟩ : ∃ b9, w3.heap.size = b9 := ⟨_, rfl⟩
        obtain ⟨W3, hW3⟩ : ∃ W3, w3.alloc (.cells #[.int .i64 ys, .int .i64 ye, .int .i64 yf, .int .i64 yo, .bool ysh, .int .i64 ypr, .int .i64 ymx, .int .i64 yin, .int .i64 yad, .bool ywi] 28) = W3 := ⟨_, rfl⟩
        have ob9 : ob W3 b9 = some (.cells #[.int .i64 ys, .int .i64 ye, .int .i64 yf, .int .i64 yo, .bool ysh, .int .i64 ypr, .int .i64 ymx, .int .i64 yin, .int .i64 yad, .bool ywi] 28 (0, 0)) := by rw [← hW3, ← hb9]; exact ob_new _ _
        rw [hW3] at hfa hat2
        obtain ⟨is, his⟩ : ∃ is, fok (forkV l) p = is := ⟨_, rfl⟩
        obtain ⟨z, hz⟩ : ∃ z, atL (forkV l) p = z := ⟨_, rfl⟩
        rw [his, hz] at hat2 HP HGZ
        have HOB9 := Lib.hid ob9
        have HC3 := Lib.hid (HC.out.keep (hf3.also hfa))
        have HF3 := Lib.hid (HF2.out.also (hf3.also hfa))
        have HW3 := Lib.hid hW3
        have HB9 := Lib.hid hb9
        clear ob9 hf3 hfa his hz hW3 hb9
        go_wp2_with fail
        try rw [HW3.out]
        try rw [HB9.out]
        refine hat2.mono ?_
        rintro e w4 ⟨rfl, hf4⟩
        clear hat2
        have hob4 := hf4.keep (fun h => h) HOB9.out
        have e4 := fun i => cell_of_ob hob4 i
        have r0 : w4.cell? ⟨b9, 0, none⟩ = some (.int .i64 ys) := e4 0
        have r1 : w4.cell? ⟨b9, 1, none⟩ = some (.int .i64 ye) := e4 1
        have r2 : w4.cell? ⟨b9, 2, none⟩ = some (.int .i64 yf) := e4 2
        have r3 : w4.cell? ⟨b9, 3, none⟩ = some (.int .i64 yo) := e4 3
        have r4 : w4.cell? ⟨b9, 4, none⟩ = some (.bool ysh) := e4 4
        have r5 : w4.cell? ⟨b9, 5, none⟩ = some (.int .i64 ypr) := e4 5
        have r6 : w4.cell? ⟨b9, 6, none⟩ = some (.int .i64 ymx) := e4 6
        have r7 : w4.cell? ⟨b9, 7, none⟩ = some (.int .i64 yin) := e4 7
        have r8 : w4.cell? ⟨b9, 8, none⟩ = some (.int .i64 yad) := e4 8
        have r9 : w4.cell? ⟨b9, 9, none⟩ = some (.bool ywi) := e4 9
        have s9 := ob_lt hob4
        have HF6 := Lib.hid ((HF3.out.also hf4).alloc (.cells #[.int .i64 z.s, .int .i64 z.e, .int .i64 z.f, .int .i64 z.o, .bool z.sh, .int .i64 z.pr, .int .i64 z.mx, .int .i64 z.inh, .int .i64 z.adv, .bool z.wi] 28))
        have HC6 := Lib.hid ((HC3.out.keep hf4).keep ((Fr.refl _ _).alloc (.cells #[.int .i64 z.s, .int .i64 z.e, .int .i64 z.f, .int .i64 z.o, .bool z.sh, .int .i64 z.pr, .int .i64 z.mx, .int .i64 z.inh, .int .i64 z.adv, .bool z.wi] 28)))
        clear e4 hob4 hf4
        try simp only [HB9.out]
        cases is with
        | false =>
          obtain ⟨zs, ze, zf, zo, zsh, zpr, zmx, zin, zad, zwi⟩ := z
          dsimp only at *
          have hpp : (ok && !decide (yin = 2)) = false := HP.out.1.symm
          cases ok with
          | false =>
            clear hpp
            have hen := ents_any (HC6.out) (by have := HFL.out; omega)
            go_wp2_with fail
            refine hen.mono ?_
            rintro e w7 ⟨x7, rfl, hs7, hf7, -⟩
            obtain ⟨A7, N7, C7, rfl⟩ := hs7.shape
            have hri := eright_any (Sl.rd hs7) (by have := HFL.out; omega) HFO.out.wf
            rw [HFO.out.right] at hri
            have HF7 := Lib.hid (HF6.out.also hf7)
            have HC7 := Lib.hid (HC6.out.keep hf7)
            clear hen hs7 hf7
            go_wp2_with fail
            refine hri.mono ?_
            rintro e w8 ⟨rfl, hf8⟩
            have HF8 := Lib.hid (HF7.out.also hf8)
            have HC8 := Lib.hid (HC7.out.keep hf8)
            clear hri hf8
            have hen := ents_any (HC8.out) (by have := HFL.out; omega)
            go_wp2_with fail
            refine hen.mono ?_
            rintro e w9 ⟨x9, rfl, hs9, hf9, -⟩
            obtain ⟨A9, N9, C9, rfl⟩ := hs9.shape
            have hme := merge_any (Sl.rd hs9) (by have := HFL.out; omega) HFO.out.right
            rw [HFO.out.merged] at hme
            have HF9 := Lib.hid (HF8.out.also hf9)
            have HC9 := Lib.hid (HC8.out.keep hf9)
            clear hen hs9 hf9
            go_wp2_with fail
            refine hme.mono ?_
            rintro e w10 ⟨x10, rfl, hs10, hf10, -⟩
            obtain ⟨A10, N10, C10, rfl⟩ := hs10.shape
            have HN10 := Lib.hid (show N10 = (forkV l).length from SE.elen hs10)
            have hen := ents_any (HC9.out.keep hf10) (by have := HFL.out; omega)
            have HF10 := Lib.hid (HF9.out.also hf10)
            clear hme hs10 hf10
            go_wp2_with fail
            refine hen.mono ?_
            rintro e w11 ⟨x11, rfl, hs11, hf11, -⟩
            obtain ⟨A11, N11, C11, rfl⟩ := hs11.shape
            have hN11 : N11 = N10 := (SE.elen hs11).trans HN10.out.symm
            subst hN11
            have HF11 := Lib.hid (HF10.out.also hf11)
            clear hen hs11 hf11 HN10
            go_wp2_with fail
            refine (vlives_any w11).mono ?_
            rintro e w12 ⟨rfl, hf12⟩
            have HF12 := Lib.hid (HF11.out.also hf12)
            clear hf12
            go_wp2
            go_ret
            exact ⟨rfl, HF12.out⟩
          | true =>
            have hyi : (yin != 2) = false := by simpa using hpp
            clear hpp
            have hen := ents_any (HC6.out) (by have := HFL.out; omega)
            go_wp2_with fail
            refine hen.mono ?_
            rintro e w7 ⟨x7, rfl, hs7, hf7, -⟩
            obtain ⟨A7, N7, C7, rfl⟩ := hs7.shape
            have hri := eright_any (Sl.rd hs7) (by have := HFL.out; omega) HFO.out.wf
            rw [HFO.out.right] at hri
            have HF7 := Lib.hid (HF6.out.also hf7)
            have HC7 := Lib.hid (HC6.out.keep hf7)
            clear hen hs7 hf7
            go_wp2_with fail
            refine hri.mono ?_
            rintro e w8 ⟨rfl, hf8⟩
            have HF8 := Lib.hid (HF7.out.also hf8)
            have HC8 := Lib.hid (HC7.out.keep hf8)
            clear hri hf8
            have hen := ents_any (HC8.out) (by have := HFL.out; omega)
            go_wp2_with fail
            refine hen.mono ?_
            rintro e w9 ⟨x9, rfl, hs9, hf9, -⟩
            obtain ⟨A9, N9, C9, rfl⟩ := hs9.shape
            have hme := merge_any (Sl.rd hs9) (by have := HFL.out; omega) HFO.out.right
            rw [HFO.out.merged] at hme
            have HF9 := Lib.hid (HF8.out.also hf9)
            have HC9 := Lib.hid (HC8.out.keep hf9)
            clear hen hs9 hf9
            go_wp2_with fail
            refine hme.mono ?_
            rintro e w10 ⟨x10, rfl, hs10, hf10, -⟩
            obtain ⟨A10, N10, C10, rfl⟩ := hs10.shape
            have HN10 := Lib.hid (show N10 = (forkV l).length from SE.elen hs10)
            have hen := ents_any (HC9.out.keep hf10) (by have := HFL.out; omega)
            have HF10 := Lib.hid (HF9.out.also hf10)
            clear hme hs10 hf10
            go_wp2_with fail
            refine hen.mono ?_
            rintro e w11 ⟨x11, rfl, hs11, hf11, -⟩
            obtain ⟨A11, N11, C11, rfl⟩ := hs11.shape
            have hN11 : N11 = N10 := (SE.elen hs11).trans HN10.out.symm
            subst hN11
            have HF11 := Lib.hid (HF10.out.also hf11)
            clear hen hs11 hf11 HN10
            go_wp2_with fail
            refine (vlives_any w11).mono ?_
            rintro e w12 ⟨rfl, hf12⟩
            have HF12 := Lib.hid (HF11.out.also hf12)
            clear hf12
            go_wp2
            go_ret
            exact ⟨rfl, HF12.out⟩
        | true =>
          obtain ⟨zs, ze, zo, hz, hzo⟩ := HP.out.2 rfl
          have hpp : (ok && !decide (yin = 2)) = true := HP.out.1.symm
          subst hz
          obtain ⟨⟨z1, z2, z3, z4, z5, z6, z7⟩, -⟩ := HGZ.out rfl
          cases ok with
          | false => exact absurd hpp (by simp)
          | true =>
            obtain ⟨⟨y1, y2, y3, y4, y5, y6, y7⟩, -⟩ := HGY.out rfl
            dsimp only at *
            have hyi : (yin != 2) = true := by simpa using hpp
            have HZO := Lib.hid hzo
            have y8 : yo ≤ 4096 := by by_cases hf : yf = 0; · have := y6 hf; omega
                                      · have := y7 (by omega); omega
            have z8 : zo ≤ 4096 := by by_cases hf : yf = 0; · have := z6 hf; omega
                                      · have := z7 (by omega); omega
            clear hpp hzo y6 y7 z6 z7
            by_cases hf0 : 0 < yf
            · have hbz : (zo - zs != yo - ys) = false := by have := HZO.out hf0; simp; omega
              have hen := ents_any (HC6.out) (by have := HFL.out; omega)
              go_wp2_with fail
              refine hen.mono ?_
              rintro e w7 ⟨x7, rfl, hs7, hf7, -⟩
              obtain ⟨A7, N7, C7, rfl⟩ := hs7.shape
              have hri := eright_any (Sl.rd hs7) (by have := HFL.out; omega) HFO.out.wf
              rw [HFO.out.right] at hri
              have HF7 := Lib.hid (HF6.out.also hf7)
              have HC7 := Lib.hid (HC6.out.keep hf7)
              clear hen hs7 hf7
              go_wp2_with fail
              refine hri.mono ?_
              rintro e w8 ⟨rfl, hf8⟩
              have HF8 := Lib.hid (HF7.out.also hf8)
              have HC8 := Lib.hid (HC7.out.keep hf8)
              clear hri hf8
              have hen := ents_any (HC8.out) (by have := HFL.out; omega)
              go_wp2_with fail
              refine hen.mono ?_
              rintro e w9 ⟨x9, rfl, hs9, hf9, -⟩
              obtain ⟨A9, N9, C9, rfl⟩ := hs9.shape
              have hme := merge_any (Sl.rd hs9) (by have := HFL.out; omega) HFO.out.right
              rw [HFO.out.merged] at hme
              have HF9 := Lib.hid (HF8.out.also hf9)
              have HC9 := Lib.hid (HC8.out.keep hf9)
              clear hen hs9 hf9
              go_wp2_with fail
              refine hme.mono ?_
              rintro e w10 ⟨x10, rfl, hs10, hf10, -⟩
              obtain ⟨A10, N10, C10, rfl⟩ := hs10.shape
              have HN10 := Lib.hid (show N10 = (forkV l).length from SE.elen hs10)
              have hen := ents_any (HC9.out.keep hf10) (by have := HFL.out; omega)
              have HF10 := Lib.hid (HF9.out.also hf10)
              clear hme hs10 hf10
              go_wp2_with fail
              refine hen.mono ?_
              rintro e w11 ⟨x11, rfl, hs11, hf11, -⟩
              obtain ⟨A11, N11, C11, rfl⟩ := hs11.shape
              have hN11 : N11 = N10 := (SE.elen hs11).trans HN10.out.symm
              subst hN11
              have HF11 := Lib.hid (HF10.out.also hf11)
              clear hen hs11 hf11 HN10
              go_wp2_with fail
              refine (vlives_any w11).mono ?_
              rintro e w12 ⟨rfl, hf12⟩
              have HF12 := Lib.hid (HF11.out.also hf12)
              clear hf12
              go_wp2
              go_ret
              exact ⟨rfl, HF12.out⟩
            · 
              have hen := ents_any (HC6.out) (by have := HFL.out; omega)
              go_wp2_with fail
              refine hen.mono ?_
              rintro e w7 ⟨x7, rfl, hs7, hf7, -⟩
              obtain ⟨A7, N7, C7, rfl⟩ := hs7.shape
              have hri := eright_any (Sl.rd hs7) (by have := HFL.out; omega) HFO.out.wf
              rw [HFO.out.right] at hri
              have HF7 := Lib.hid (HF6.out.also hf7)
              have HC7 := Lib.hid (HC6.out.keep hf7)
              clear hen hs7 hf7
              go_wp2_with fail
              refine hri.mono ?_
              rintro e w8 ⟨rfl, hf8⟩
              have HF8 := Lib.hid (HF7.out.also hf8)
              have HC8 := Lib.hid (HC7.out.keep hf8)
              clear hri hf8
              have hen := ents_any (HC8.out) (by have := HFL.out; omega)
              go_wp2_with fail
              refine hen.mono ?_
              rintro e w9 ⟨x9, rfl, hs9, hf9, -⟩
              obtain ⟨A9, N9, C9, rfl⟩ := hs9.shape
              have hme := merge_any (Sl.rd hs9) (by have := HFL.out; omega) HFO.out.right
              rw [HFO.out.merged] at hme
              have HF9 := Lib.hid (HF8.out.also hf9)
              have HC9 := Lib.hid (HC8.out.keep hf9)
              clear hen hs9 hf9
              go_wp2_with fail
              refine hme.mono ?_
              rintro e w10 ⟨x10, rfl, hs10, hf10, -⟩
              obtain ⟨A10, N10, C10, rfl⟩ := hs10.shape
              have HN10 := Lib.hid (show N10 = (forkV l).length from SE.elen hs10)
              have hen := ents_any (HC9.out.keep hf10) (by have := HFL.out; omega)
              have HF10 := Lib.hid (HF9.out.also hf10)
              clear hme hs10 hf10
              go_wp2_with fail
              refine hen.mono ?_
              rintro e w11 ⟨x11, rfl, hs11, hf11, -⟩
              obtain ⟨A11, N11, C11, rfl⟩ := hs11.shape
              have hN11 : N11 = N10 := (SE.elen hs11).trans HN10.out.symm
              subst hN11
              have HF11 := Lib.hid (HF10.out.also hf11)
              clear hen hs11 hf11 HN10
              go_wp2_with fail
              refine (vlives_any w11).mono ?_
              rintro e w12 ⟨rfl, hf12⟩
              have HF12 := Lib.hid (HF11.out.also hf12)
              clear hf12
              go_wp2
              go_ret
              exact ⟨rfl, HF12.out⟩
end Go.Proofs.Ytopglbkcciigbaa
