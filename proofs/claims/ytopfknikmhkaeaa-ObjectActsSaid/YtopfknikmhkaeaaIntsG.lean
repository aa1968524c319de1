/- pantryref01.Ints: are two lists of numbers one? No conditions but bounds on lengths. -/
import Derived.Test.YtopfknikmhkaeaaOpen
import Derived.Deep.QuietTactic
import Derived.BigQuiet
import Derived.Deep.CutBlock
import Derived.Deep.DeepCutAuto
namespace Go.Proofs.Ytopfknikmhkaeaa
open Go.RowKit
set_option linter.unusedSimpArgs false
set_option linter.unusedVariables false
/-- Numbers that are read. -/
abbrev RdG (w : World) (v : Value) (l : List Int) : Prop := Rd w 1 v (l.map (Value.int .i64))
theorem RdG.elen {w : World} {v : Value} {l : List Int} (h : RdG w v l) : sliceLen v = l.length := by
  have := h.len; simp only [List.length_map] at this; omega
theorem RdG.item {w : World} {v : Value} {l : List Int} (h : RdG w v l) {j : Nat} {x : Int} (hx : l[j]? = some x) :
    ∃ g off n cap, v = .slice (some ⟨g, off, none⟩) n cap ∧ g < w.heap.size ∧ n = l.length ∧ w.cell? ⟨g, off + j, none⟩ = some (.int .i64 x) := by
  have hj : (l.map (Value.int .i64))[j]? = some (.int .i64 x) := by rw [List.getElem?_map, hx]; rfl
  obtain ⟨g, off, n', cap', heq, hgl, hcs, hl⟩ := Rd.form h (by intro e; rw [e] at hj; cases hj)
  simp only [List.length_map] at hl
  exact ⟨g, off, n', cap', heq, hgl, by omega, hcs _ _ hj⟩
theorem drewNG {w w1 : World} {S : Nat → Prop} (h : Fr S w w1) (n : Nat) : Fr S w (w1.drewN n) := ⟨h.os, h.tape, h.output, h.size, h.block⟩
set_option maxRecDepth 100000 in
set_option maxHeartbeats 4000000 in
theorem intsEq_any {w : World} {v v2 : Value} {l l2 : List Int} (h : RdG w v l) (h2 : RdG w v2 l2) (hv : ∃ A N C, v = .slice A N C) (hv2 : ∃ A N C, v2 = .slice A N C) (hl : l.length ≤ 1000000) :
    Calls Try.prog 28 #[v, v2] w fun e w' => e = .returned (.bool (decide (l = l2))) ∧ Fr (fun _ => False) w w' := by
  obtain ⟨A, N, C, rfl⟩ := hv
  obtain ⟨A2, N2, C2, rfl⟩ := hv2
  have hN : N = l.length := RdG.elen h
  have hN2 : N2 = l2.length := RdG.elen h2
  obtain ⟨q, hq⟩ : ∃ q, decide (l = l2) = q := ⟨_, rfl⟩
  rw [hq]
  by_cases hne : N = N2
  · subst hne
    have HN := Lib.hid hN
    have HN2 := Lib.hid hN2
    have HQ := Lib.hid hq
    have hN6 : N ≤ 1000000 := by omega
    clear hN hN2 hq hl
    go_enter Try.func28, Try.ntmps28
    go_wp2_with fail
    go_loopw [13] (fun si wr => ∃ t : Nat, t ≤ N ∧ si = .int .i64 t ∧ Hid (l.take t = l2.take t) ∧ Fr (fun _ => False) w wr) (fun si _ => N - (intOf si).toNat)
    case atStart => exact ⟨0, by omega, rfl, Lib.hid rfl, Fr.refl _ _⟩
    case round =>
      obtain ⟨t, htN, rfl, HT, hf⟩ := hrel
      by_cases hlt : t < N
      · obtain ⟨x, hx⟩ : ∃ x, l[t]? = some x := ⟨_, List.getElem?_eq_getElem (by have := HN.out; omega)⟩
        obtain ⟨y, hy⟩ : ∃ y, l2[t]? = some y := ⟨_, List.getElem?_eq_getElem (by have := HN2.out; omega)⟩
        obtain ⟨g, off, n', cap', heq, hgl, -, c0⟩ := RdG.item (Rd.of h hf (fun _ h => h.elim)) hx
        cases heq
        obtain ⟨g2, off2, n', cap', heq, hgl2, -, d0⟩ := RdG.item (Rd.of h2 hf (fun _ h => h.elim)) hy
        cases heq
        by_cases hxy : x = y
        · have hb : (x != y) = false := by simp [hxy]
          have HT2 := Lib.hid (show l.take (t + 1) = l2.take (t + 1) by rw [List.take_add_one, List.take_add_one, HT.out, hx, hy, hxy])
          clear hx hy hxy
          go_upto_region 6 with fail
          go_quiet (fail)
          go_wp2
          go_roundw
          case rel => exact ⟨t + 1, by omega, by go_num, HT2, drewNG hf _⟩
          case measure => simp [intOf]; omega
        · have hb : (x != y) = true := by simp [hxy]
          obtain rfl : false = q := by
            rw [← HQ.out]
            refine (decide_eq_false fun e => hxy ?_).symm
            rw [e, hy] at hx; cases hx; rfl
          clear hx hy hxy
          go_upto_region 6 with fail
          go_quiet (fail)
          go_wp2
          go_ret
          exact ⟨rfl, drewNG hf _⟩
      · obtain rfl : t = N := by omega
        obtain rfl : true = q := by
          rw [← HQ.out]
          refine (decide_eq_true ?_).symm
          have h3 := HT.out
          rw [HN.out, List.take_length, ← HN.out, HN2.out, List.take_length] at h3
          exact h3
        go_wp2
        go_ret
        exact ⟨rfl, hf⟩
  · obtain rfl : false = q := by
      rw [← hq]
      exact (decide_eq_false fun e => hne (by rw [hN, hN2, e])).symm
    have hb : ((N : Int) != (N2 : Int)) = true := by simp; omega
    clear hN hN2 hq
    go_enter Try.func28, Try.ntmps28
    go_wp2
    go_ret
    exact ⟨rfl, Fr.refl _ _⟩
end Go.Proofs.Ytopfknikmhkaeaa
