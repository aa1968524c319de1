/- pantryref15.Good and Right; pantrylaw15.right. No conditions. -/
import Derived.Test.YtjgjgkcboigocaaEn
namespace Go.Proofs.Ytjgjgkcboigocaa
open Go.RowKit
set_option linter.unusedSimpArgs false
set_option linter.unusedVariables false
def bad1 (x : Ent) : Bool :=
  !(decide (0 ≤ x.s) && decide (x.s < x.e) && decide (x.e ≤ 67108864) && decide (0 ≤ x.f) && decide (0 ≤ x.o) && decide (0 ≤ x.pr) && decide (x.pr ≤ 7) && decide (0 ≤ x.mx) && decide (x.mx ≤ 7) && permB x.pr x.mx)
def bad2 (x : Ent) : Bool := !(decide (0 ≤ x.inh) && decide (x.inh ≤ 2) && decide (0 ≤ x.adv) && decide (x.adv ≤ 4))
theorem goodB_eq (x : Ent) : goodB x = (!bad1 x && !bad2 x && (if x.f = 0 then decide (x.o = 0) else decide (x.o ≤ 4096 - (x.e - x.s)))) := by
  unfold goodB bad1 bad2; rw [Bool.not_not, Bool.not_not]
set_option maxRecDepth 100000 in
set_option maxHeartbeats 4000000 in
theorem rgood_any (x : Ent) (w : World) : Calls Try.prog 22 #[.agg #[.int .i64 x.s, .int .i64 x.e, .int .i64 x.f, .int .i64 x.o, .bool x.sh, .int .i64 x.pr, .int .i64 x.mx, .int .i64 x.inh, .int .i64 x.adv, .bool x.wi]] w fun e w' => e = .returned (.bool (goodB x)) ∧ Fr (fun _ => False) w w' := by
  obtain ⟨gb, hgb⟩ : ∃ gb, gb = goodB x := ⟨_, rfl⟩
  rw [← hgb]
  rw [goodB_eq] at hgb
  have HG := Lib.hid hgb
  clear hgb
  go_enter Try.func22, Try.ntmps22
  go_upto_region 1 with fail
  go_cut [57] (fun s57 wc => s57 = .bool (bad1 x) ∧ wc = w.alloc (.cells #[.int .i64 x.s, .int .i64 x.e, .int .i64 x.f, .int .i64 x.o, .bool x.sh, .int .i64 x.pr, .int .i64 x.mx, .int .i64 x.inh, .int .i64 x.adv, .bool x.wi] 27))
  case first =>

    by_cases h0 : x.s < 0
    · have e0 : ¬ 0 ≤ x.s := by omega
      go_wp2
      go_meet
      exact ⟨by simp [bad1, permB, e0], rfl⟩
    have e0 : 0 ≤ x.s := by omega
    by_cases h1 : x.e ≤ x.s
    · have e1 : ¬ x.s < x.e := by omega
      go_wp2
      go_meet
      exact ⟨by simp [bad1, permB, e1], rfl⟩
    have e1 : x.s < x.e := by omega
    by_cases h2 : 67108864 < x.e
    · have e2 : ¬ x.e ≤ 67108864 := by omega
      go_wp2
      go_meet
      exact ⟨by simp [bad1, permB, e2], rfl⟩
    have e2 : x.e ≤ 67108864 := by omega
    by_cases h3 : x.f < 0
    · have e3 : ¬ 0 ≤ x.f := by omega
      go_wp2
      go_meet
      exact ⟨by simp [bad1, permB, e3], rfl⟩
    have e3 : 0 ≤ x.f := by omega
    by_cases h4 : x.o < 0
    · have e4 : ¬ 0 ≤ x.o := by omega
      go_wp2
      go_meet
      exact ⟨by simp [bad1, permB, e4], rfl⟩
    have e4 : 0 ≤ x.o := by omega
    by_cases h5 : x.pr < 0
    · have e5 : ¬ 0 ≤ x.pr := by omega
      go_wp2
      go_meet
      exact ⟨by simp [bad1, permB, e5], rfl⟩
    have e5 : 0 ≤ x.pr := by omega
    by_cases h6 : 7 < x.pr
    · have e6 : ¬ x.pr ≤ 7 := by omega
      go_wp2
      go_meet
      exact ⟨by simp [bad1, permB, e6], rfl⟩
    have e6 : x.pr ≤ 7 := by omega
    by_cases h7 : x.mx < 0
    · have e7 : ¬ 0 ≤ x.mx := by omega
      go_wp2
      go_meet
      exact ⟨by simp [bad1, permB, e7], rfl⟩
    have e7 : 0 ≤ x.mx := by omega
    by_cases h8 : 7 < x.mx
    · have e8 : ¬ x.mx ≤ 7 := by omega
      go_wp2
      go_meet
      exact ⟨by simp [bad1, permB, e8], rfl⟩
    have e8 : x.mx ≤ 7 := by omega
    go_wp2
    go_meet
    exact ⟨by simp [bad1, permB, e0, e1, e2, e3, e4, e5, e6, e7, e8]; by_cases hq : bits .and .i64 x.pr x.mx = x.pr <;> simp [hq], rfl⟩
  case rest =>
    obtain ⟨rfl, rfl⟩ := hcut
    cases hb1 : bad1 x
    case true =>
      rw [hb1] at HG
      obtain rfl : gb = false := by have := HG.out; simpa using this
      go_wp2
      go_ret
      exact ⟨rfl, (Fr.refl _ _).alloc _⟩
    case false =>
    have hs : 0 ≤ x.s ∧ x.s < x.e ∧ x.e ≤ 67108864 ∧ 0 ≤ x.f := by
      unfold bad1 at hb1
      simp at hb1
      exact ⟨hb1.1.1.1.1.1.1.1.1.1, hb1.1.1.1.1.1.1.1.1.2, hb1.1.1.1.1.1.1.1.2, hb1.1.1.1.1.1.1.2⟩
    obtain ⟨k0, k1, k2, k3⟩ := hs
    rw [hb1] at HG
    clear hb1
    go_upto_region 3 with fail
    go_cut [75] (fun s75 wc => s75 = .bool (bad2 x) ∧ wc = w.alloc (.cells #[.int .i64 x.s, .int .i64 x.e, .int .i64 x.f, .int .i64 x.o, .bool x.sh, .int .i64 x.pr, .int .i64 x.mx, .int .i64 x.inh, .int .i64 x.adv, .bool x.wi] 27))
    case first =>

      by_cases h0 : x.inh < 0
      · have e0 : ¬ 0 ≤ x.inh := by omega
        go_wp2
        go_meet
        exact ⟨by simp [bad2, e0], rfl⟩
      have e0 : 0 ≤ x.inh := by omega
      by_cases h1 : 2 < x.inh
      · have e1 : ¬ x.inh ≤ 2 := by omega
        go_wp2
        go_meet
        exact ⟨by simp [bad2, e1], rfl⟩
      have e1 : x.inh ≤ 2 := by omega
      by_cases h2 : x.adv < 0
      · have e2 : ¬ 0 ≤ x.adv := by omega
        go_wp2
        go_meet
        exact ⟨by simp [bad2, e2], rfl⟩
      have e2 : 0 ≤ x.adv := by omega
      go_wp2
      go_meet
      exact ⟨by simp [bad2, e0, e1, e2]; by_cases hq : x.adv ≤ 4 <;> simp [hq] <;> omega, rfl⟩
    case rest =>
      obtain ⟨rfl, rfl⟩ := hcut
      cases hb2 : bad2 x
      case true =>
        rw [hb2] at HG
        obtain rfl : gb = false := by have := HG.out; simpa using this
        go_wp2
        go_ret
        exact ⟨rfl, (Fr.refl _ _).alloc _⟩
      case false =>
      rw [hb2] at HG
      clear hb2
      by_cases hf : x.f = 0
      · obtain rfl : gb = decide (x.o = 0) := by have := HG.out; rw [if_pos hf] at this; simpa using this
        go_wp2
        go_ret
        exact ⟨rfl, (Fr.refl _ _).alloc _⟩
      · obtain rfl : gb = decide (x.o ≤ 4096 - (x.e - x.s)) := by have := HG.out; rw [if_neg hf] at this; simpa using this
        go_wp2
        go_ret
        exact ⟨rfl, (Fr.refl _ _).alloc _⟩
end Go.Proofs.Ytjgjgkcboigocaa
