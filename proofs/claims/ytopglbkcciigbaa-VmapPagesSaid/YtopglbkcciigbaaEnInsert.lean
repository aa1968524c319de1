/- entry.Insert. Conditions: a right list of at most 500 entries, an entry whose numbers are int's. -/
import Derived.Test.YtopglbkcciigbaaEnInsP
import Derived.Test.YtopglbkcciigbaaEnGoodE
import Derived.Test.YtopglbkcciigbaaEnIns
namespace Go.Proofs.Ytopglbkcciigbaa
open Go.RowKit
set_option linter.unusedSimpArgs false
set_option linter.unusedVariables false
set_option maxRecDepth 100000 in
set_option maxHeartbeats 4000000 in
theorem insert_any {w : World} {v : Value} {l : List Ent} (h : Rd w 10 v (l.flatMap ent)) (hl : l.length ≤ 500) (hr : rightB 0 l = true) (x : Ent) (hx : WfE x) :
    Calls Try.prog 42 #[v, .agg #[.int .i64 x.s, .int .i64 x.e, .int .i64 x.f, .int .i64 x.o, .bool x.sh, .int .i64 x.pr, .int .i64 x.mx, .int .i64 x.inh, .int .i64 x.adv, .bool x.wi]] w fun e w' => ∃ v', e = .returned (.tuple #[v', .bool (insOk l x)]) ∧ SE w' v' (insL l x) ∧ Fr (fun _ => False) w w' ∧ ∀ k, v'.ownBlock = some k → w.heap.size ≤ k := by
  have hends := ends_of_right hr
  obtain ⟨gb, hgb⟩ : ∃ gb, gb = goodB x := ⟨_, rfl⟩
  obtain ⟨ok, hok⟩ : ∃ ok, ok = insOk l x := ⟨_, rfl⟩
  obtain ⟨m, hm⟩ : ∃ m, m = insL l x := ⟨_, rfl⟩
  have hgood := fun W => good_any x hx W
  have hm2 : m = if ok then insAt l x else l := by rw [hm, hok]; rfl
  have hok2 : ok = (gb && freeB l x) := by rw [hok, hgb]; rfl
  rw [← hok, ← hm]
  simp only [← hgb] at hgood
  have hfl := fidx_le l x.s
  have hfa := fun (W : World) A N C (h : Rd W 10 (.slice A N C) (l.flatMap ent)) => find_any h (by omega) hends x.s
  have hfb : freeB l x = match l[fidx l x.s]? with | some y => decide (x.e ≤ y.s) | none => true := rfl
  have hfo : fok l x.s = match l[fidx l x.s]? with | some y => decide (y.s ≤ x.s) | none => false := rfl
  have hia : insAt l x = l.take (fidx l x.s) ++ x :: l.drop (fidx l x.s) := rfl
  obtain ⟨i, hi⟩ : ∃ i, i = fidx l x.s := ⟨_, rfl⟩
  obtain ⟨fo, hfo0⟩ : ∃ fo, fo = fok l x.s := ⟨_, rfl⟩
  simp only [← hi, ← hfo0] at hfa
  rw [← hi] at hfb hfo hia hfl
  rw [← hfo0] at hfo
  have hse : gb = true → x.s < x.e := fun hg => (goodE_of (hgb ▸ hg)).se
  have HM := Lib.hid hm2
  have HOK := Lib.hid hok2
  have HG := Lib.hid hgood
  have HFA := Lib.hid hfa
  have HFB := Lib.hid hfb
  have HFO := Lib.hid hfo
  have HIA := Lib.hid hia
  have HSE := Lib.hid hse
  have HFL := Lib.hid hfl
  clear hgb hok hm hm2 hok2 hgood hfa hfb hfo hia hse hi hfo0 hends hr hfl
  go_enter Try.func42, Try.ntmps42
  go_wp2_with fail
  refine (clone_any (h.of ((Fr.refl (fun _ => False) w).alloc _) (fun _ h => h.elim)) (by omega)).mono ?_
  rintro e w1 ⟨v1, rfl, hs1, hf1, ho1⟩
  have hf01 := ((Fr.refl (fun _ => False) w).alloc (.cells #[.int .i64 x.s, .int .i64 x.e, .int .i64 x.f, .int .i64 x.o, .bool x.sh, .int .i64 x.pr, .int .i64 x.mx, .int .i64 x.inh, .int .i64 x.adv, .bool x.wi] 28)).also hf1
  have o1 : ob w1 w.heap.size = some (.cells #[.int .i64 x.s, .int .i64 x.e, .int .i64 x.f, .int .i64 x.o, .bool x.sh, .int .i64 x.pr, .int .i64 x.mx, .int .i64 x.inh, .int .i64 x.adv, .bool x.wi] 28 (0, 0)) := hf1.keep (fun h => h) (ob_new w _)
  have ho1' : ∀ k, v1.ownBlock = some k → w.heap.size + 1 ≤ k := fun k hk => by have := ho1 k hk; simpa using this
  obtain ⟨A, N, C, rfl⟩ := hs1.shape
  have hN : N = l.length := SE.elen hs1
  have HN := Lib.hid hN
  have hN5 : N ≤ 500 := by omega
  have HS1 := Lib.hid hs1
  have c0 : w1.cell? ⟨w.heap.size, 0, none⟩ = some (.int .i64 x.s) := cell_of_ob o1 0
  have c1 : w1.cell? ⟨w.heap.size, 1, none⟩ = some (.int .i64 x.e) := cell_of_ob o1 1
  have c2 : w1.cell? ⟨w.heap.size, 2, none⟩ = some (.int .i64 x.f) := cell_of_ob o1 2
  have c3 : w1.cell? ⟨w.heap.size, 3, none⟩ = some (.int .i64 x.o) := cell_of_ob o1 3
  have c4 : w1.cell? ⟨w.heap.size, 4, none⟩ = some (.bool x.sh) := cell_of_ob o1 4
  have c5 : w1.cell? ⟨w.heap.size, 5, none⟩ = some (.int .i64 x.pr) := cell_of_ob o1 5
  have c6 : w1.cell? ⟨w.heap.size, 6, none⟩ = some (.int .i64 x.mx) := cell_of_ob o1 6
  have c7 : w1.cell? ⟨w.heap.size, 7, none⟩ = some (.int .i64 x.inh) := cell_of_ob o1 7
  have c8 : w1.cell? ⟨w.heap.size, 8, none⟩ = some (.int .i64 x.adv) := cell_of_ob o1 8
  have c9 : w1.cell? ⟨w.heap.size, 9, none⟩ = some (.bool x.wi) := cell_of_ob o1 9
  have s1 := ob_lt o1
  have O1 := Lib.hid o1
  have HO1 := Lib.hid ho1'
  clear hN hs1 ho1 ho1' o1 hf1 h
  go_wp2_with fail
  refine (HG.out _).mono ?_
  rintro e w2 ⟨rfl, hf2⟩
  have hs2 := Sl.fr HS1.out hf2 (fun _ _ h => h)
  have hf02 := hf01.also hf2
  have o2 := hf2.keep (fun h => h) O1.out
  have d0 : w2.cell? ⟨w.heap.size, 0, none⟩ = some (.int .i64 x.s) := cell_of_ob o2 0
  have s2 := ob_lt o2
  clear c0 c1 c2 c3 c4 c5 c6 c7 c8 c9 s1
  have HS2 := Lib.hid hs2
  have O2 := Lib.hid o2
  clear hs2 o2
  cases gb with
  | false =>
    obtain rfl : ok = false := by rw [HOK.out]; rfl
    obtain rfl : m = l := by rw [HM.out]; rfl
    clear d0
    go_wp2
    go_ret2
    exact ⟨_, rfl, HS2.out, hf02, fun k hk => by have := HO1.out k hk; omega⟩
  | true =>
  have hse := HSE.out rfl
  go_wp2_with fail
  refine (HFA.out _ _ _ _ (Sl.rd HS2.out)).mono ?_
  rintro e w3 ⟨rfl, hf3⟩
  have hs3 := Sl.fr HS2.out hf3 (fun _ _ h => h)
  have hf03 := hf02.also hf3
  have o3 := hf3.keep (fun h => h) O2.out
  have c1 : w3.cell? ⟨w.heap.size, 1, none⟩ = some (.int .i64 x.e) := cell_of_ob o3 1
  have s3 := ob_lt o3
  clear d0 s2
  have HS3 := Lib.hid hs3
  have O3 := Lib.hid o3
  clear o3
  have last : ∀ W, Fr (fun _ => False) w3 W → ok = true → m = insAt l x → Calls Try.prog 45 #[.slice A N C, .int .i64 i, .slice (some ⟨W.heap.size, 0, none⟩) 1 1] (W.alloc (.cells #[.int .i64 x.s, .int .i64 x.e, .int .i64 x.f, .int .i64 x.o, .bool x.sh, .int .i64 x.pr, .int .i64 x.mx, .int .i64 x.inh, .int .i64 x.adv, .bool x.wi] 28))
      fun e w' => ∃ v', e = .returned v' ∧ SE w' v' m ∧ Fr (fun _ => False) w w' ∧ ∀ k, v'.ownBlock = some k → w.heap.size ≤ k := fun W hW hok hm => by
    have hsW : SE (W.alloc (.cells #[.int .i64 x.s, .int .i64 x.e, .int .i64 x.f, .int .i64 x.o, .bool x.sh, .int .i64 x.pr, .int .i64 x.mx, .int .i64 x.inh, .int .i64 x.adv, .bool x.wi] 28)) (.slice A N C) l := Sl.alloc (Sl.fr HS3.out hW (fun _ _ h => h)) _
    refine (ins_any hsW (by omega) W.heap.size x (ob_new _ _) (fun k hk e => by
      have := Sl.lt (Sl.fr HS3.out hW (fun _ _ h => h)) hk; omega) i HFL.out).mono ?_
    rintro e w' ⟨v', rfl, h1, h2, h3⟩
    refine ⟨v', rfl, by rw [hm, HIA.out]; exact h1, ((hf03.also hW).alloc _).step h2 (fun k hk => .inr (by have := HO1.out k hk; omega)), fun k hk => ?_⟩
    rcases h3 k hk with h4 | h4
    · have := HO1.out k h4; omega
    · have := (((hf03.also hW).alloc (.cells #[.int .i64 x.s, .int .i64 x.e, .int .i64 x.f, .int .i64 x.o, .bool x.sh, .int .i64 x.pr, .int .i64 x.mx, .int .i64 x.inh, .int .i64 x.adv, .bool x.wi] 28))).size; omega
  have LAST := Lib.hid last
  clear last
  cases hy : l[i]? with
  | none =>
    have hiN : i = N := by have := List.getElem?_eq_none_iff.1 hy; have := HN.out; have := HFL.out; omega
    obtain rfl : fo = false := by rw [HFO.out, hy]
    obtain rfl : ok = true := by rw [HOK.out, HFB.out, hy]; rfl
    have hm1 : m = insAt l x := by rw [HM.out]; rfl
    have HM1 := Lib.hid hm1
    clear hy hs3 hm1
    subst hiN
    go_wp2_with fail
    go_quiet (fail)
    have hWq : Fr (fun _ => False) w3 (w3.drewN nq) := ⟨rfl, rfl, rfl, Nat.le_refl _, fun _ _ _ => rfl⟩
    obtain ⟨c0, c1', c2, c3, c4, c5, c6, c7, c8, c9⟩ : ((w3.drewN nq).cell? ⟨w.heap.size, 0, none⟩ = some (.int .i64 x.s) ∧ (w3.drewN nq).cell? ⟨w.heap.size, 1, none⟩ = some (.int .i64 x.e) ∧ (w3.drewN nq).cell? ⟨w.heap.size, 2, none⟩ = some (.int .i64 x.f) ∧ (w3.drewN nq).cell? ⟨w.heap.size, 3, none⟩ = some (.int .i64 x.o) ∧ (w3.drewN nq).cell? ⟨w.heap.size, 4, none⟩ = some (.bool x.sh) ∧ (w3.drewN nq).cell? ⟨w.heap.size, 5, none⟩ = some (.int .i64 x.pr) ∧ (w3.drewN nq).cell? ⟨w.heap.size, 6, none⟩ = some (.int .i64 x.mx) ∧ (w3.drewN nq).cell? ⟨w.heap.size, 7, none⟩ = some (.int .i64 x.inh) ∧ (w3.drewN nq).cell? ⟨w.heap.size, 8, none⟩ = some (.int .i64 x.adv) ∧ (w3.drewN nq).cell? ⟨w.heap.size, 9, none⟩ = some (.bool x.wi)) := ⟨cell_of_ob O3.out 0, cell_of_ob O3.out 1, cell_of_ob O3.out 2, cell_of_ob O3.out 3, cell_of_ob O3.out 4, cell_of_ob O3.out 5, cell_of_ob O3.out 6, cell_of_ob O3.out 7, cell_of_ob O3.out 8, cell_of_ob O3.out 9⟩
    go_wp2_with fail
    refine (LAST.out _ hWq (by trivial) HM1.out).mono ?_
    rintro e w4 ⟨v4, rfl, h1, h2, h3⟩
    go_wp2
    go_ret2
    exact ⟨v4, rfl, h1, h2, h3⟩
  | some y =>
    have hfo : fo = decide (y.s ≤ x.s) := by rw [HFO.out, hy]
    have hokd : ok = decide (x.e ≤ y.s) := by rw [HOK.out, HFB.out, hy]; rfl
    obtain ⟨g, off, n', cap', heq, hgl, -, -, y0, -⟩ := SE.entry HS3.out hy
    cases heq
    have hin : i < N := by rw [HN.out]; exact (List.getElem?_eq_some_iff.1 hy).1
    clear hy hs3
    by_cases hb1 : y.s ≤ x.s
    · obtain rfl : fo = true := by rw [hfo]; exact decide_eq_true hb1
      obtain rfl : ok = false := by rw [hokd]; exact decide_eq_false (by omega)
      obtain rfl : m = l := by rw [HM.out]; rfl
      clear hfo hokd
      go_wp2_with fail
      go_quiet (fail)
      go_wp2
      go_ret2
      exact ⟨_, rfl, Sl.of HS3.out (fun _ _ => rfl), ⟨hf03.os, hf03.tape, hf03.output, hf03.size, hf03.block⟩, fun k hk => by have := HO1.out k hk; omega⟩
    obtain rfl : fo = false := by rw [hfo]; exact decide_eq_false hb1
    by_cases hb2 : y.s < x.e
    · obtain rfl : ok = false := by rw [hokd]; exact decide_eq_false (by omega)
      obtain rfl : m = l := by rw [HM.out]; rfl
      clear hfo hokd
      go_wp2_with fail
      go_quiet (fail)
      go_wp2
      go_ret2
      exact ⟨_, rfl, Sl.of HS3.out (fun _ _ => rfl), ⟨hf03.os, hf03.tape, hf03.output, hf03.size, hf03.block⟩, fun k hk => by have := HO1.out k hk; omega⟩
    · obtain rfl : ok = true := by rw [hokd]; exact decide_eq_true (by omega)
      have hm1 : m = insAt l x := by rw [HM.out]; rfl
      have HM1 := Lib.hid hm1
      clear hfo hokd hm1
      go_wp2_with fail
      go_quiet (fail)
      have hWq : Fr (fun _ => False) w3 (w3.drewN nq) := ⟨rfl, rfl, rfl, Nat.le_refl _, fun _ _ _ => rfl⟩
      obtain ⟨c0, c1', c2, c3, c4, c5, c6, c7, c8, c9⟩ : ((w3.drewN nq).cell? ⟨w.heap.size, 0, none⟩ = some (.int .i64 x.s) ∧ (w3.drewN nq).cell? ⟨w.heap.size, 1, none⟩ = some (.int .i64 x.e) ∧ (w3.drewN nq).cell? ⟨w.heap.size, 2, none⟩ = some (.int .i64 x.f) ∧ (w3.drewN nq).cell? ⟨w.heap.size, 3, none⟩ = some (.int .i64 x.o) ∧ (w3.drewN nq).cell? ⟨w.heap.size, 4, none⟩ = some (.bool x.sh) ∧ (w3.drewN nq).cell? ⟨w.heap.size, 5, none⟩ = some (.int .i64 x.pr) ∧ (w3.drewN nq).cell? ⟨w.heap.size, 6, none⟩ = some (.int .i64 x.mx) ∧ (w3.drewN nq).cell? ⟨w.heap.size, 7, none⟩ = some (.int .i64 x.inh) ∧ (w3.drewN nq).cell? ⟨w.heap.size, 8, none⟩ = some (.int .i64 x.adv) ∧ (w3.drewN nq).cell? ⟨w.heap.size, 9, none⟩ = some (.bool x.wi)) := ⟨cell_of_ob O3.out 0, cell_of_ob O3.out 1, cell_of_ob O3.out 2, cell_of_ob O3.out 3, cell_of_ob O3.out 4, cell_of_ob O3.out 5, cell_of_ob O3.out 6, cell_of_ob O3.out 7, cell_of_ob O3.out 8, cell_of_ob O3.out 9⟩
      go_wp2_with fail
      refine (LAST.out _ hWq (by trivial) HM1.out).mono ?_
      rintro e w4 ⟨v4, rfl, h1, h2, h3⟩
      go_wp2
      go_ret2
      exact ⟨v4, rfl, h1, h2, h3⟩
end Go.Proofs.Ytopglbkcciigbaa
