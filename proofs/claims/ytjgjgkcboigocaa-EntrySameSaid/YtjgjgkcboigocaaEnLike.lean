/- pantrylaw15.like. Conditions: right lists of at most 500 entries. -/
import Derived.Test.YtjgjgkcboigocaaEnSameP
import Derived.Test.YtjgjgkcboigocaaEnFind
namespace Go.Proofs.Ytjgjgkcboigocaa
open Go.RowKit
set_option linter.unusedSimpArgs false
set_option linter.unusedVariables false
set_option maxRecDepth 100000 in
set_option maxHeartbeats 8000000 in
theorem like_any {w : World} {A B : Option Addr} {N C M D : Nat} {l m : List Ent} (h : Rd w 10 (.slice A N C) (l.flatMap ent)) (k : Rd w 10 (.slice B M D) (m.flatMap ent)) (hl : l.length ≤ 500) (hm : m.length ≤ 500) (hrl : rightB 0 l = true) (hrm : rightB 0 m = true) (p : Int) (hk : Likes l m p) :
    Calls Try.prog 32 #[.slice A N C, .slice B M D, .int .i64 p] w fun e w' => e = .returned (.bool true) ∧ Fr (fun _ => False) w w' := by
  have hN : N = l.length := h.elen
  have hM : M = m.length := k.elen
  have hN5 : N ≤ 500 := by omega
  have hM5 : M ≤ 500 := by omega
  have hfl := find_any h (by omega) (ends_of_right hrl) p
  have hfm := fun (W : World) (k : Rd W 10 (.slice B M D) (m.flatMap ent)) => find_any k (by omega) (ends_of_right hrm) p
  obtain ⟨i, hi⟩ : ∃ i, i = fidx l p := ⟨_, rfl⟩
  obtain ⟨j, hj⟩ : ∃ j, j = fidx m p := ⟨_, rfl⟩
  rw [← hi] at hfl
  simp only [← hj] at hfm
  unfold Likes at hk
  rw [← hi, ← hj] at hk
  have HN := Lib.hid hN
  have HM := Lib.hid hM
  have HRL := Lib.hid hrl
  have HRM := Lib.hid hrm
  clear hN hM hrl hrm hi hj hl hm
  rcases hk with ⟨h1, h2⟩ | ⟨x, y, hx, hy, h1, h2, hpx, hpy, hlk⟩
  · rw [h1] at hfl
    simp only [h2] at hfm
    have HFM := Lib.hid hfm
    clear h1 h2 hfm
    go_enter Try.func32, Try.ntmps32
    go_wp2_with fail
    refine hfl.mono ?_
    rintro e w1 ⟨rfl, hf1⟩
    clear hfl
    go_wp2_with fail
    refine (HFM.out _ (k.of hf1 (fun _ h => h.elim))).mono ?_
    rintro e w2 ⟨rfl, hf2⟩
    go_wp2
    go_ret
    exact ⟨rfl, hf1.also hf2⟩
  · rw [h1] at hfl
    simp only [h2] at hfm
    have HFM := Lib.hid hfm
    have hiN : i < N := by rw [HN.out]; exact (List.getElem?_eq_some_iff.1 hx).1
    have hjM : j < M := by rw [HM.out]; exact (List.getElem?_eq_some_iff.1 hy).1
    obtain ⟨a1, a2, a3, a4, a5, -, a7⟩ := goodE_of (rightB_mem HRL.out x (List.mem_of_getElem? hx)).1
    obtain ⟨b1, b2, b3, b4, b5, -, b7⟩ := goodE_of (rightB_mem HRM.out y (List.mem_of_getElem? hy)).1
    obtain ⟨px1, px2⟩ := hpx
    obtain ⟨py1, py2⟩ := hpy
    obtain ⟨l1, l2, l3, l4, l5, l6, l7, l8⟩ := hlk
    have HL8 := Lib.hid l8
    have HEQ := Lib.hid (show (Ent.mk x.s x.e x.f x.o x.sh x.pr x.mx x.inh x.adv x.wi).eqb ⟨x.s, x.e, y.f, x.o, y.sh, y.pr, y.mx, y.inh, y.adv, y.wi⟩ = true from Ent.eqb_iff.2 (by rw [l1, l2, l3, l4, l5, l6, l7]))
    have HX := Lib.hid hx
    have HY := Lib.hid hy
    clear h1 h2 hfm l1 l2 l3 l4 l5 l6 l7 l8 hx hy
    go_enter Try.func32, Try.ntmps32
    go_wp2_with fail
    refine hfl.mono ?_
    rintro e w1 ⟨rfl, hf1⟩
    clear hfl
    go_wp2_with fail
    refine (HFM.out _ (k.of hf1 (fun _ h => h.elim))).mono ?_
    rintro e w2 ⟨rfl, hf2⟩
    have hf02 := hf1.also hf2
    obtain ⟨g, off, n', cap', heq, hgl, -, c0, c1, c2, c3, c4, c5, c6, c7, c8, c9⟩ := (h.of hf02 (fun _ h => h.elim)).entry HX.out
    cases heq
    obtain ⟨g', off', n', cap', heq, hgl', -, d0, d1, d2, d3, d4, d5, d6, d7, d8, d9⟩ := (k.of hf02 (fun _ h => h.elim)).entry HY.out
    cases heq
    have hb := HEQ.out
    go_wp2_with fail
    go_region
    all_goals
      by_cases hf : 0 < x.f
      · have a8 := a7 hf
        have l8 := HL8.out hf
        have hoy : y.o ≤ 5000000000 := by
          have := b7
          by_cases hfy : 0 < y.f
          · have := b7 hfy; omega
          · omega
        clear a7 b7
        go_wp2_with fail
        go_region
        all_goals
          go_wp2_with fail
          go_ret
          exact ⟨rfl, by repeat' first | exact hf02 | apply Fr.alloc | apply Fr.drew⟩
      · clear a7 b7
        go_wp2_with fail
        go_region
        all_goals
          go_wp2_with fail
          go_ret
          exact ⟨rfl, by repeat' first | exact hf02 | apply Fr.alloc | apply Fr.drew⟩
end Go.Proofs.Ytjgjgkcboigocaa
