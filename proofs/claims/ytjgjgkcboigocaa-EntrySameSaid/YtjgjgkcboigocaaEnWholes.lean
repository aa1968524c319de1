/- EntryWholes, walked. No conditions. -/
import Derived.Test.YtjgjgkcboigocaaEnLives
import Derived.Test.YtjgjgkcboigocaaEnGoodE
import Derived.Test.YtjgjgkcboigocaaEnCovP
namespace Go.Proofs.Ytjgjgkcboigocaa
open Go.RowKit
set_option linter.unusedSimpArgs false
set_option linter.unusedVariables false
theorem wf_u64 {x : Int} (h : (Lit.int .u64 x).wf = true) : 0 ≤ x ∧ x < 18446744073709551616 := by
  have h1 : IntKind.u64.min = 0 := by decide
  have h2 : IntKind.u64.max = 18446744073709551615 := by decide
  simp [Lit.wf] at h
  omega
theorem clip1_wf {x y : Ent} {p : Int} (hw : WfE x) (hp : goodB x = true) (h : y ∈ clip1 x p) : WfE y := by
  have hg := goodE_of hp
  have h1 := wf_i64 hw.s
  unfold clip1 at h
  split at h
  · rename_i hc
    have hpw : (Lit.int .i64 p).wf = true := by
      have e1 : IntKind.i64.min = -9223372036854775808 := by decide
      have e2 : IntKind.i64.max = 9223372036854775807 := by decide
      have := hg.s0; have := hg.em
      simp [Lit.wf]; omega
    simp at h
    rcases h with rfl | rfl
    · exact ⟨hw.s, hpw, hw.f, hw.o, hw.pr, hw.mx, hw.inh, hw.adv⟩
    · refine ⟨hpw, hw.e, hw.f, ?_, hw.pr, hw.mx, hw.inh, hw.adv⟩
      show (Lit.int .i64 (if 0 < x.f then x.o + (p - x.s) else x.o)).wf = true
      split
      · rename_i hf
        have := hg.om hf; have := hg.o0; have := hg.s0; have := hg.em
        have e1 : IntKind.i64.min = -9223372036854775808 := by decide
        have e2 : IntKind.i64.max = 9223372036854775807 := by decide
        simp [Lit.wf]; omega
      · exact hw.o
  · simp at h; subst h; exact hw
theorem clip_wf {l : List Ent} {p : Int} (hr : rightB 0 l = true) (hw : ∀ x ∈ l, WfE x) : ∀ y ∈ clipL l p, WfE y := by
  intro y hy
  obtain ⟨x, hx, hy⟩ := List.mem_flatMap.1 hy
  exact clip1_wf (hw x hx) (rightB_mem hr x hx).1 hy
theorem left_wf {l : List Ent} {lo hi : Int} (hr : rightB 0 l = true) (hw : ∀ x ∈ l, WfE x) : ∀ y ∈ leftL l lo hi, WfE y := fun y hy =>
  clip_wf (rightB_clip lo hr) (clip_wf hr hw) y (List.mem_filter.1 hy).1
theorem gone_wf {l : List Ent} {lo hi : Int} (hr : rightB 0 l = true) (hw : ∀ x ∈ l, WfE x) : ∀ y ∈ goneL l lo hi, WfE y := fun y hy =>
  clip_wf (rightB_clip lo hr) (clip_wf hr hw) y (List.mem_filter.1 hy).1
set_option maxRecDepth 100000 in
set_option maxHeartbeats 4000000 in
theorem wholes_walk (w : World) (A : Option Addr) (N C : Nat) (l : List Ent) (h : Rd w 10 (.slice A N C) (l.flatMap ent)) (hw : ∀ x ∈ l, WfE x) (lo : Int) (n : Int) (hn0 : 0 ≤ n) (hn1 : n < 18446744073709551616) :
    Calls Try.prog 9 #[.slice A N C, .int .i64 lo, .int .u64 n] w fun e w' => e = .returned (.bool true) ∧ Fr (fun _ => False) w w' := by
  obtain ⟨rb, hrb⟩ : ∃ rb, rb = (decide (l.length ≤ 100) && rightB 0 l) := ⟨_, rfl⟩
  have hra := right_any h
  rw [← hrb] at hra
  have hN : N = l.length := h.elen
  have HN := Lib.hid hN
  have HW := Lib.hid hw
  clear hN hw
  obtain ⟨k, hk, hk20⟩ : ∃ k : Nat, n.tmod 20 = (k : Int) ∧ k < 20 := ⟨(n % 20).toNat, by rw [Int.tmod_eq_emod_of_nonneg hn0]; omega, by omega⟩
  go_enter Try.func9, Try.ntmps9
  go_wp2_with fail
  refine hra.mono ?_
  rintro e w1 ⟨rfl, hf1⟩
  clear hra
  cases rb with
  | false =>
    clear hrb
    go_wp2_with fail
    refine (lives_any _).mono ?_
    rintro e w7 ⟨rfl, hf7⟩
    go_wp2
    go_ret
    exact ⟨rfl, hf1.also hf7⟩
  | true =>
  by_cases hl0 : lo < 0
  · clear hrb
    go_wp2_with fail
    refine (lives_any _).mono ?_
    rintro e w7 ⟨rfl, hf7⟩
    go_wp2
    go_ret
    exact ⟨rfl, hf1.also hf7⟩
  by_cases hl1 : 67108844 < lo
  · clear hrb
    go_wp2_with fail
    refine (lives_any _).mono ?_
    rintro e w7 ⟨rfl, hf7⟩
    go_wp2
    go_ret
    exact ⟨rfl, hf1.also hf7⟩
  have hlo0 : 0 ≤ lo := by omega
  have hlo1 : lo ≤ 67108844 := by omega
  have hrb' := hrb.symm
  simp only [Bool.and_eq_true, decide_eq_true_eq] at hrb'
  obtain ⟨hle, hr⟩ := hrb'
  have hN5 : N ≤ 100 := by rw [HN.out]; exact hle
  have h1 := h.of hf1 (fun _ h => h.elim)
  have HR := Lib.hid hr
  have HLE := Lib.hid hle
  have HFD := Lib.hid (fun (W : World) (p : Int) (h : Rd W 10 (.slice A N C) (l.flatMap ent)) => find_any h (by omega) (ends_of_right hr) p)
  obtain ⟨hw1, hw2, hw3⟩ := wholes_law (k := k) hr hlo0
  obtain ⟨al, hal⟩ : ∃ al, al = allB l lo k := ⟨_, rfl⟩
  rw [← hal] at hw1 hw2
  have HAL := Lib.hid hal
  have HW1 := Lib.hid hw1
  have HW2 := Lib.hid hw2
  have HW3 := Lib.hid hw3
  clear hrb hr hle hl0 hl1 hal hw1 hw2 hw3
  go_wp2_with fail
  go_loopw [8, 9] (fun sa sp wr => ∃ (i : Nat) (ab : Bool), i ≤ k ∧ sp = .int .i64 (lo + (i : Int)) ∧ sa = .bool ab ∧ Hid (ab = allB l lo i) ∧ Fr (fun _ => False) w1 wr) (fun _ sp _ => (lo + (k : Int) - intOf sp).toNat)
  case atStart => exact ⟨0, true, by omega, by simp, rfl, Lib.hid rfl, Fr.refl _ _⟩
  case round =>
    obtain ⟨i, ab, hi, rfl, rfl, HAB, hf⟩ := hrel
    have hrr := h1.of hf (fun _ h => h.elim)
    by_cases hlt : i < k
    · have hfd := HFD.out wr (lo + (i : Int)) hrr
      obtain ⟨fb, hfb⟩ : ∃ fb, fb = fok l (lo + (i : Int)) := ⟨_, rfl⟩
      rw [← hfb] at hfd
      have HFB := Lib.hid hfb
      clear hfb hrr
      go_wp2_with fail
      refine hfd.mono ?_
      rintro e w2 ⟨rfl, hf2⟩
      clear hfd
      cases ab with
      | false =>
        go_wp2
        go_roundw
        case rel => exact ⟨i + 1, false, by omega, by go_num, rfl, Lib.hid (by rw [allB_succ, ← HAB.out]; rfl), hf.also hf2⟩
        case measure => simp [intOf]; omega
      | true =>
        go_wp2
        go_roundw
        case rel => exact ⟨i + 1, fb, by omega, by go_num, rfl, Lib.hid (by rw [allB_succ, ← HAB.out, ← HFB.out]; rfl), hf.also hf2⟩
        case measure => simp [intOf]; omega
    · obtain rfl : i = k := by omega
      obtain rfl : ab = al := by rw [HAB.out, HAL.out]
      have hf0r := hf1.also hf
      go_wp2_with fail
      refine (cut_any hrr (by have := HLE.out; omega) HR.out lo (lo + (i : Int))).mono ?_
      rintro e w2 ⟨v1, v2, rfl, hs1, hs2, hf2, ho1, ho2⟩
      have hf02 := hf0r.also hf2
      have hgr := right_gone lo (lo + (i : Int)) HR.out
      have hgin := fun x (hx : x ∈ goneL l lo (lo + (i : Int))) => gone_in hx
      have hgs := gone_sum (k := i) HR.out hlo0
      have hgl := gone_len lo (lo + (i : Int)) HR.out
      obtain ⟨gn, hgn⟩ : ∃ gn, gn = goneL l lo (lo + (i : Int)) := ⟨_, rfl⟩
      rw [← hgn] at hs2 hgr hgin hgs hgl HW2
      have HGR := Lib.hid hgr
      have HGIN := Lib.hid hgin
      have HGS := Lib.hid hgs
      obtain ⟨B, M, D, rfl⟩ := hs2.shape
      have hM : M = gn.length := SE.elen hs2
      have hM5 : M ≤ 102 := by have := HLE.out; omega
      have HM := Lib.hid hM
      obtain ⟨B1, M1, D1, rfl⟩ := hs1.shape
      have hlr := right_left lo (lo + (i : Int)) HR.out
      have hll := left_len lo (lo + (i : Int)) HR.out
      have hlw := left_wf (lo := lo) (hi := lo + (i : Int)) HR.out HW.out
      obtain ⟨lf, hlf⟩ : ∃ lf, lf = leftL l lo (lo + (i : Int)) := ⟨_, rfl⟩
      rw [← hlf] at hs1 hlr hll hlw HW3
      have HLR := Lib.hid hlr
      have HLL := Lib.hid hll
      have HLW := Lib.hid hlw
      have HR2 := Lib.hid (hrr.of hf2 (fun _ h => h.elim))
      clear hgr hgin hgs hgl hgn hM hlr hll hlw hlf ho1 ho2 hrr
      go_wp2_with fail
      go_loopw [14, 64] (fun ss sj wr => ∃ (j : Nat) (s : Int), j ≤ M ∧ sj = .int .i64 j ∧ ss = .int .i64 s ∧ Hid (s = sumL (gn.take j)) ∧ Fr (fun _ => False) w2 wr) (fun _ sj _ => M - (intOf sj).toNat)
      case atStart => exact ⟨0, 0, by omega, rfl, rfl, Lib.hid rfl, Fr.refl _ _⟩
      case round =>
        obtain ⟨j, s, hj, rfl, rfl, HSJ, hf3⟩ := hrel
        have hsb : 0 ≤ s ∧ s ≤ i := by have := HGS.out j; rw [← HSJ.out] at this; exact this
        obtain ⟨hsb0, hsb1⟩ := hsb
        by_cases hjM : j < M
        · obtain ⟨x, hx⟩ : ∃ x, gn[j]? = some x := ⟨_, List.getElem?_eq_getElem (by have := HM.out; omega)⟩
          obtain ⟨g, off, n', cap', heq, hgl, -, -, c0, c1, c2, c3, c4, c5, c6, c7, c8, c9⟩ := SE.entry (Sl.fr hs2 hf3 (fun _ _ h => h)) hx
          cases heq
          obtain ⟨q1, q2⟩ := HGIN.out x (List.mem_of_getElem? hx)
          obtain ⟨g1, g2, g3, -, -, -, -⟩ := goodE_of (rightB_mem HGR.out x (List.mem_of_getElem? hx)).1
          have HST := Lib.hid (sum_take hx)
          clear hx
          go_wp2
          go_roundw
          case rel => exact ⟨j + 1, s + (x.e - x.s), by omega, by go_num, rfl, Lib.hid (by rw [HST.out, ← HSJ.out]), hf3.alloc _⟩
          case measure => simp [intOf]; omega
        · obtain rfl : j = M := by omega
          have hsum : decide (s = (i : Int)) = ab := by
            rw [← HW2.out, HSJ.out, List.take_of_length_le (by rw [HM.out]; exact Nat.le_refl _)]
          have HSUM := Lib.hid hsum
          have hs13 := Sl.fr hs1 hf3 (fun _ _ h => h)
          have hr3 := HR2.out.of hf3 (fun _ h => h.elim)
          have hf03 := hf02.also hf3
          have HS13 := Lib.hid hs13
          have HR3 := Lib.hid hr3
          clear hsum hs1 hs2 hs13 hr3 hsb0 hsb1
          obtain ⟨W3, hW3⟩ : ∃ W3, W3 = wr := ⟨_, rfl⟩
          rw [← hW3] at hf03 HS13 HR3
          rw [← hW3]
          clear hW3 hf3 hf02 hf0r hf hf2
          go_wp2_with fail
          go_loopw [17] (fun sp wr => ∃ (i2 : Nat), i2 ≤ i ∧ sp = .int .i64 (lo + (i2 : Int)) ∧ Fr (fun _ => False) W3 wr) (fun sp _ => (lo + (i : Int) - intOf sp).toNat)
          case atStart => exact ⟨0, by omega, by simp, Fr.refl _ _⟩
          case round =>
            obtain ⟨i2, hi2, rfl, hf4⟩ := hrel
            by_cases hlt2 : i2 < i
            · have hfd := find_any (Sl.rd (Sl.fr HS13.out hf4 (fun _ _ h => h))) (by have := HLL.out; have := HLE.out; omega) (ends_of_right HLR.out) (lo + (i2 : Int))
              rw [HW3.out _ (by omega) (by omega)] at hfd
              go_wp2_with fail
              refine hfd.mono ?_
              rintro e w5 ⟨rfl, hf5⟩
              clear hfd
              go_wp2
              go_roundw
              case rel => exact ⟨i2 + 1, by omega, by go_num, hf4.also hf5⟩
              case measure => simp [intOf]; omega
            · obtain rfl : i2 = i := by omega
              have hwh := whole_any (HR3.out.of hf4 (fun _ h => h.elim)) (by have := HLE.out; omega) HR.out lo (lo + (i2 : Int))
              rw [HW1.out] at hwh
              have hsq : (s == (i2 : Int)) = ab := by rw [← HSUM.out]; rfl
              have HSQ := Lib.hid hsq
              obtain ⟨sq, hsq2⟩ : ∃ sq, sq = (s == (i2 : Int)) := ⟨_, rfl⟩
              have hsl : ∀ W, Fr (fun _ => False) wr W → Calls Try.prog 23 #[.slice B1 M1 D1] W fun e w' => e = .returned (.bool true) ∧ Fr (fun _ => False) W w' := fun W hW => by
                have := eright_any (Sl.rd (Sl.fr HS13.out (hf4.also hW) (fun _ _ h => h))) (by have := HLL.out; have := HLE.out; omega) HLW.out
                rw [HLR.out] at this
                exact this
              have HSL := Lib.hid hsl
              clear hsq hsl hsq2
              cases ab with
              | true =>
                have hseq : s = (i2 : Int) := by have := HSQ.out; simpa using this
                subst hseq
                go_wp2_with fail
                refine hwh.mono ?_
                rintro e w5 ⟨rfl, hf5⟩
                clear hwh
                go_wp2_with fail
                refine (HSL.out _ hf5).mono ?_
                rintro e w6 ⟨rfl, hf6⟩
                go_wp2_with fail
                refine (lives_any _).mono ?_
                rintro e w7 ⟨rfl, hf7⟩
                go_wp2
                go_ret
                exact ⟨rfl, (((hf03.also hf4).also hf5).also hf6).also hf7⟩
              | false =>
                have hsne : (s == (i2 : Int)) = false := HSQ.out
                go_wp2_with fail
                refine hwh.mono ?_
                rintro e w5 ⟨rfl, hf5⟩
                clear hwh
                go_wp2_with fail
                refine (HSL.out _ hf5).mono ?_
                rintro e w6 ⟨rfl, hf6⟩
                go_wp2_with fail
                refine (lives_any _).mono ?_
                rintro e w7 ⟨rfl, hf7⟩
                go_wp2
                go_ret
                exact ⟨rfl, (((hf03.also hf4).also hf5).also hf6).also hf7⟩
end Go.Proofs.Ytjgjgkcboigocaa
