/- pantryref15.Same and Right; pantrylaw15.right. Conditions: bounds on lengths. -/
import Derived.Test.YtopglbkcciigbaaEnClipP
import Derived.Test.YtopglbkcciigbaaEnGood
import Derived.Deep.QuietTactic
import Derived.BigQuiet
namespace Go.Proofs.Ytopglbkcciigbaa
open Go.RowKit
set_option linter.unusedSimpArgs false
set_option linter.unusedVariables false
theorem list_ne {α : Type} {a b : List α} {i : Nat} {x y : α} (ha : a[i]? = some x) (hb : b[i]? = some y) (h : x ≠ y) : a ≠ b := fun e => by
  rw [e, hb] at ha; cases ha; exact h rfl
set_option maxRecDepth 100000 in
set_option maxHeartbeats 4000000 in
theorem same_any {w : World} {A B : Option Addr} {N C M D : Nat} {l m : List Ent} (h : Rd w 10 (.slice A N C) (l.flatMap ent)) (k : Rd w 10 (.slice B M D) (m.flatMap ent)) (hl : l.length ≤ 1000) (hm : m.length ≤ 1000) :
    Calls Try.prog 18 #[.slice A N C, .slice B M D] w fun e w' => e = .returned (.bool (decide (l = m))) ∧ Fr (fun _ => False) w w' := by
  have hN : N = l.length := h.elen
  have hM : M = m.length := k.elen
  have hN5 : N ≤ 1000 := by omega
  have hM5 : M ≤ 1000 := by omega
  have HN := Lib.hid hN
  have HM := Lib.hid hM
  obtain ⟨r, hr⟩ : ∃ r, r = decide (l = m) := ⟨_, rfl⟩
  rw [← hr]
  have HR := Lib.hid hr
  clear hN hM hl hm hr
  go_enter Try.func18, Try.ntmps18
  by_cases hnm : N = M
  · subst hnm
    go_wp2_with fail
    go_loopw [13] (fun v wr => ∃ i : Nat, i ≤ N ∧ v = .int .i64 i ∧ l.take i = m.take i ∧ Fr (fun _ => False) w wr) (fun v _ => N - (intOf v).toNat)
    case atStart => exact ⟨0, by omega, rfl, rfl, Fr.refl _ _⟩
    case round =>
      obtain ⟨i, hi, rfl, ht, hf⟩ := hrel
      have HT := Lib.hid ht
      clear ht
      by_cases hlt : i < N
      · obtain ⟨x, hx⟩ : ∃ x, l[i]? = some x := ⟨_, List.getElem?_eq_getElem (by have := HN.out; omega)⟩
        obtain ⟨y, hy⟩ : ∃ y, m[i]? = some y := ⟨_, List.getElem?_eq_getElem (by have := HM.out; omega)⟩
        obtain ⟨g, off, n', cap', heq, hgl, -, c0, c1, c2, c3, c4, c5, c6, c7, c8, c9⟩ := (h.of hf (fun _ h => h.elim)).entry hx
        cases heq
        obtain ⟨g', off', n', cap', heq, hgl', -, d0, d1, d2, d3, d4, d5, d6, d7, d8, d9⟩ := (k.of hf (fun _ h => h.elim)).entry hy
        cases heq
        have HX := Lib.hid hx
        have HY := Lib.hid hy
        clear hx hy
        by_cases hxy : x = y
        · have hb : (Ent.mk x.s x.e x.f x.o x.sh x.pr x.mx x.inh x.adv x.wi).eqb ⟨y.s, y.e, y.f, y.o, y.sh, y.pr, y.mx, y.inh, y.adv, y.wi⟩ = true := Ent.eqb_iff.2 hxy
          have HXY := Lib.hid hxy
          clear hxy
          go_wp2_with fail
          refine wp_region_canon [0, 1, 2, 3, 4, 5, 6, 7, 8] (by kernel_rfl) (by kernel_rfl) (fun K hK => ?_)
          simp only [List.map_cons, List.map_nil, List.getD_cons_succ, List.getD_cons_zero]
          go_wp2
          refine hK _ _ (by kernel_rfl) ?_
          clear hK K
          go_wp2
          go_roundw
          case rel =>
            refine ⟨i + 1, by omega, by go_num, ?_, hf.drew⟩
            have hx := HX.out
            have hy := HY.out
            rw [List.take_add_one, List.take_add_one, hx, hy, HT.out, HXY.out]
          case measure => simp [intOf]; omega
        · have hb : (Ent.mk x.s x.e x.f x.o x.sh x.pr x.mx x.inh x.adv x.wi).eqb ⟨y.s, y.e, y.f, y.o, y.sh, y.pr, y.mx, y.inh, y.adv, y.wi⟩ = false := by
            cases hq : (Ent.mk x.s x.e x.f x.o x.sh x.pr x.mx x.inh x.adv x.wi).eqb ⟨y.s, y.e, y.f, y.o, y.sh, y.pr, y.mx, y.inh, y.adv, y.wi⟩ with
            | false => rfl
            | true => exact absurd (Ent.eqb_iff.1 hq) hxy
          obtain rfl : r = false := by rw [HR.out]; exact decide_eq_false (list_ne HX.out HY.out hxy)
          clear hxy
          go_wp2_with fail
          refine wp_region_canon [0, 1, 2, 3, 4, 5, 6, 7, 8] (by kernel_rfl) (by kernel_rfl) (fun K hK => ?_)
          simp only [List.map_cons, List.map_nil, List.getD_cons_succ, List.getD_cons_zero]
          go_wp2
          refine hK _ _ (by kernel_rfl) ?_
          clear hK K
          go_wp2
          go_ret
          exact ⟨rfl, hf.drew⟩
      · obtain rfl : i = N := by omega
        obtain rfl : r = true := by
          rw [HR.out]
          refine decide_eq_true ?_
          have := HT.out
          rw [List.take_of_length_le (by rw [← HN.out]; exact Nat.le_refl _), List.take_of_length_le (by rw [← HM.out]; exact Nat.le_refl _)] at this
          exact this
        go_wp2
        go_ret
        exact ⟨rfl, hf⟩
  · obtain rfl : r = false := by
      rw [HR.out]
      exact decide_eq_false (fun e => hnm (by rw [HN.out, HM.out, e]))
    have hnm' : ¬ ((N : Int) = (M : Int)) := by omega
    go_wp2
    go_ret
    exact ⟨rfl, Fr.refl _ _⟩
end Go.Proofs.Ytopglbkcciigbaa
