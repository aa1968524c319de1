/- entry.Clip. Conditions: a right list of at most 500 entries. -/
import Derived.Test.YtopglbkcciigbaaEnClipP
namespace Go.Proofs.Ytopglbkcciigbaa
open Go.RowKit
set_option linter.unusedSimpArgs false
set_option linter.unusedVariables false
theorem clip_ins {w : World} {g off N C : Nat} {l : List Ent} {i : Nat} {x : Ent} {p : Int} (h : SE w (.slice (some ⟨g, off, none⟩) N C) l) (hx : l[i]? = some x) (hl : l.length ≤ 500) (R : Array Value) (hR : R = #[.int .i64 (cutB x p).s, .int .i64 (cutB x p).e, .int .i64 (cutB x p).f, .int .i64 (cutB x p).o, .bool (cutB x p).sh, .int .i64 (cutB x p).pr, .int .i64 (cutB x p).mx, .int .i64 (cutB x p).inh, .int .i64 (cutB x p).adv, .bool (cutB x p).wi]) :
    Calls Try.prog 45 #[.slice (some ⟨g, off, none⟩) N C, .int .i64 ((i : Int) + 1), .slice (some ⟨w.heap.size + 1, 0, none⟩) 1 1]
      (((w.setCell ⟨g, off + i * 10 + 1, none⟩ (.int .i64 p)).alloc (.cells R 28)).alloc (.cells R 28)) fun e w' =>
      ∃ v', e = .returned v' ∧ SE w' v' (l.take i ++ cutA x p :: cutB x p :: l.drop (i + 1)) ∧ Fr (fun k => k = g) w w' ∧ ∀ k, v'.ownBlock = some k → k = g ∨ w.heap.size ≤ k := by
  subst hR
  have hi := (List.getElem?_eq_some_iff.1 hx).1
  have hgl : g < w.heap.size := Sl.lt h rfl
  have h1 : SE (((w.setCell ⟨g, off + i * 10 + 1, none⟩ (.int .i64 p)).alloc (.cells #[.int .i64 (cutB x p).s, .int .i64 (cutB x p).e, .int .i64 (cutB x p).f, .int .i64 (cutB x p).o, .bool (cutB x p).sh, .int .i64 (cutB x p).pr, .int .i64 (cutB x p).mx, .int .i64 (cutB x p).inh, .int .i64 (cutB x p).adv, .bool (cutB x p).wi] 28)).alloc (.cells #[.int .i64 (cutB x p).s, .int .i64 (cutB x p).e, .int .i64 (cutB x p).f, .int .i64 (cutB x p).o, .bool (cutB x p).sh, .int .i64 (cutB x p).pr, .int .i64 (cutB x p).mx, .int .i64 (cutB x p).inh, .int .i64 (cutB x p).adv, .bool (cutB x p).wi] 28)) (.slice (some ⟨g, off, none⟩) N C) (l.set i (cutA x p)) :=
    (Sl.alloc (Sl.alloc (SE.putEnd h hx p) _) _)
  have hf : Fr (fun k => k = g) w (((w.setCell ⟨g, off + i * 10 + 1, none⟩ (.int .i64 p)).alloc (.cells #[.int .i64 (cutB x p).s, .int .i64 (cutB x p).e, .int .i64 (cutB x p).f, .int .i64 (cutB x p).o, .bool (cutB x p).sh, .int .i64 (cutB x p).pr, .int .i64 (cutB x p).mx, .int .i64 (cutB x p).inh, .int .i64 (cutB x p).adv, .bool (cutB x p).wi] 28)).alloc (.cells #[.int .i64 (cutB x p).s, .int .i64 (cutB x p).e, .int .i64 (cutB x p).f, .int .i64 (cutB x p).o, .bool (cutB x p).sh, .int .i64 (cutB x p).pr, .int .i64 (cutB x p).mx, .int .i64 (cutB x p).inh, .int .i64 (cutB x p).adv, .bool (cutB x p).wi] 28)) :=
    (((Fr.refl (fun k => k = g) w).setCell ⟨g, off + i * 10 + 1, none⟩ _ (.inl rfl)).alloc _).alloc _
  have hvb : ob (((w.setCell ⟨g, off + i * 10 + 1, none⟩ (.int .i64 p)).alloc (.cells #[.int .i64 (cutB x p).s, .int .i64 (cutB x p).e, .int .i64 (cutB x p).f, .int .i64 (cutB x p).o, .bool (cutB x p).sh, .int .i64 (cutB x p).pr, .int .i64 (cutB x p).mx, .int .i64 (cutB x p).inh, .int .i64 (cutB x p).adv, .bool (cutB x p).wi] 28)).alloc (.cells #[.int .i64 (cutB x p).s, .int .i64 (cutB x p).e, .int .i64 (cutB x p).f, .int .i64 (cutB x p).o, .bool (cutB x p).sh, .int .i64 (cutB x p).pr, .int .i64 (cutB x p).mx, .int .i64 (cutB x p).inh, .int .i64 (cutB x p).adv, .bool (cutB x p).wi] 28)) (w.heap.size + 1) = some (.cells #[.int .i64 (cutB x p).s, .int .i64 (cutB x p).e, .int .i64 (cutB x p).f, .int .i64 (cutB x p).o, .bool (cutB x p).sh, .int .i64 (cutB x p).pr, .int .i64 (cutB x p).mx, .int .i64 (cutB x p).inh, .int .i64 (cutB x p).adv, .bool (cutB x p).wi] 28 (0, 0)) := ob_newAt _ _ _ (by simp)
  have := ins_any h1 (by rw [List.length_set]; omega) (w.heap.size + 1) (cutB x p) hvb (fun k hk => by have h0 : g = k := Option.some.inj hk; omega) (i + 1) (by rw [List.length_set]; omega)
  refine this.mono ?_
  rintro e w' ⟨v', rfl, h2, h3, h4⟩
  have e1 : (l.set i (cutA x p)).take (i + 1) ++ cutB x p :: (l.set i (cutA x p)).drop (i + 1) = l.take i ++ cutA x p :: cutB x p :: l.drop (i + 1) := by
    rw [List.set_eq_take_append_cons_drop, if_pos hi]
    have hlt : (l.take i).length = i := by rw [List.length_take]; omega
    rw [List.take_append, List.drop_append, hlt]
    have t1 : (l.take i).take (i + 1) = l.take i := List.take_of_length_le (by omega)
    have t2 : (l.take i).drop (i + 1) = [] := List.drop_of_length_le (by omega)
    rw [t1, t2, show i + 1 - i = 1 by omega]
    simp
  rw [e1] at h2
  refine ⟨v', rfl, h2, hf.step h3 (fun k hk => .inl (by cases hk; rfl)), fun k hk => ?_⟩
  rcases h4 k hk with h5 | h5
  · cases h5; exact .inl rfl
  · simp at h5; exact .inr (by omega)
set_option maxRecDepth 100000 in
set_option maxHeartbeats 4000000 in
theorem clip_any {w : World} {v : Value} {l : List Ent} (h : Rd w 10 v (l.flatMap ent)) (hl : l.length ≤ 500) (hr : rightB 0 l = true) (p : Int) :
    Calls Try.prog 46 #[v, .int .i64 p] w fun e w' => ∃ v', e = .returned v' ∧ SE w' v' (clipL l p) ∧ Fr (fun _ => False) w w' ∧ ∀ k, v'.ownBlock = some k → w.heap.size ≤ k := by
  have hends := ends_of_right hr
  have hw := clipL_walk p hr
  have hfok : ∀ x, l[fidx l p]? = some x → fok l p = decide (x.s ≤ p) := fun x hx => by unfold fok; rw [hx]
  have hfno : l[fidx l p]? = none → fok l p = false := fun hx => by unfold fok; rw [hx]
  have hat := fidx_at l p
  have hfl := fidx_le l p
  obtain ⟨i, hi⟩ : ∃ i, i = fidx l p := ⟨_, rfl⟩
  have hfa := fun (W : World) A N C (h : Rd W 10 (.slice A N C) (l.flatMap ent)) => find_any h (by omega) hends p
  rw [← hi] at hw hfok hfno hat hfl
  simp only [← hi] at hfa
  obtain ⟨ok, hok⟩ : ∃ ok, ok = fok l p := ⟨_, rfl⟩
  simp only [← hok] at hfa
  rw [← hok] at hw hfok hfno
  have HW := Lib.hid hw
  have HFA := Lib.hid hfa
  have HR := Lib.hid hr
  have HFOK := Lib.hid hfok
  have HFNO := Lib.hid hfno
  have HAT := Lib.hid hat
  clear hi hok hends hw hfa hr hfok hfno hat
  go_enter Try.func46, Try.ntmps46
  go_wp2_with fail
  refine (clone_any h (by omega)).mono ?_
  rintro e w1 ⟨v1, rfl, hs1, hf1, ho1⟩
  obtain ⟨A, N, C, rfl⟩ := hs1.shape
  have hN : N = l.length := hs1.elen
  have HS1 := Lib.hid hs1
  have HN := Lib.hid hN
  clear hs1 hN
  go_wp2_with fail
  refine (HFA.out _ _ _ _ HS1.out.rd).mono ?_
  rintro e w2 ⟨rfl, hf2⟩
  have hs2 := HS1.out.fr hf2 (fun _ _ h => h)
  have hf12 := hf1.also hf2
  cases hx : l[i]? with
  | none =>
    obtain rfl := HFNO.out hx
    have hc := HW.out.1 rfl
    go_wp2
    go_ret
    exact ⟨_, rfl, by rw [hc]; exact hs2, hf12, ho1⟩
  | some x =>
    have hok := HFOK.out x hx
    have hpe := HAT.out x hx
    obtain ⟨g1, g2, g3, g4, g5, g6, g7⟩ := goodE_of (rightB_mem HR.out x (List.mem_of_getElem? hx)).1
    obtain ⟨g, off, n', cap', heq, hgl, hfz, -, c0, c1, c2, c3, c4, c5, c6, c7, c8, c9⟩ := SE.entry hs2 hx
    cases heq
    have hin : i < N := by rw [HN.out]; exact (List.getElem?_eq_some_iff.1 hx).1
    have HX := Lib.hid hx
    clear hx
    by_cases hsp : p < x.s
    · have hok' : ok = false := by rw [hok]; simp; omega
      subst hok'
      have hc := HW.out.1 rfl
      clear hok g7 g6
      go_wp2
      go_ret
      exact ⟨_, rfl, by rw [hc]; exact hs2, hf12, ho1⟩
    have hok' : ok = true := by rw [hok]; simp; omega
    subst hok'
    by_cases hse : x.s = p
    · have hc := (HW.out.2 x HX.out).1 hse
      clear hok g7 g6
      go_wp2
      go_ret
      exact ⟨_, rfl, by rw [hc]; exact hs2, hf12, ho1⟩
    have hslt : x.s < p := by omega
    have hc := (HW.out.2 x HX.out).2 hslt
    have hfi := hfz (off + i * 10 + 1)
    clear hok hfz
    have hl5 : l.length ≤ 500 := hl
    by_cases hf0 : 0 < x.f
    · have ho4 := g7 hf0
      clear g6 g7
      go_wp2_with fail
      refine (clip_ins hs2 HX.out hl5 _ (by simp only [cutB, if_pos hf0])).mono ?_
      rintro e w3 ⟨v3, rfl, hs3, hf3, ho3⟩
      go_wp2
      go_ret
      refine ⟨v3, rfl, by rw [hc]; exact hs3, hf12.step hf3 (fun k hk => .inr (ho1 k (by rw [hk]; rfl))), fun k hk => ?_⟩
      rcases ho3 k hk with h5 | h5
      · exact ho1 k (by rw [h5]; rfl)
      · exact Nat.le_trans hf12.size h5
    · clear g6 g7
      go_wp2_with fail
      refine (clip_ins hs2 HX.out hl5 _ (by rw [show cutB x p = ⟨p, x.e, x.f, x.o, x.sh, x.pr, x.mx, x.inh, x.adv, x.wi⟩ by unfold cutB; rw [if_neg (by omega)]])).mono ?_
      rintro e w3 ⟨v3, rfl, hs3, hf3, ho3⟩
      go_wp2
      go_ret
      refine ⟨v3, rfl, by rw [hc]; exact hs3, hf12.step hf3 (fun k hk => .inr (ho1 k (by rw [hk]; rfl))), fun k hk => ?_⟩
      rcases ho3 k hk with h5 | h5
      · exact ho1 k (by rw [h5]; rfl)
      · exact Nat.le_trans hf12.size h5
end Go.Proofs.Ytopglbkcciigbaa
