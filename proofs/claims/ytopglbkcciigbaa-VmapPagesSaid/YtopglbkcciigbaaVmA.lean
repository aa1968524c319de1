/- vmap.Map in memory; New, made, within, Entries, At, Unmap. Conditions: at most 390 entries, right. -/
import Derived.Test.YtopglbkcciigbaaVmP
import Derived.Test.YtopglbkcciigbaaEnInsert
import Derived.Test.YtopglbkcciigbaaEnMerge
import Derived.Test.YtopglbkcciigbaaEnCut
import Derived.Test.YtopglbkcciigbaaStar
namespace Go.Proofs.Ytopglbkcciigbaa
open Go.RowKit
set_option linter.unusedSimpArgs false
set_option linter.unusedVariables false
attribute [local go_sem] Oper.semAt_some
/-- A map in memory. -/
structure MT (w : World) (b : Nat) (v : Value) (l : List Ent) : Prop where
  blk : ob w b = some (.cells #[v, .bool true] 52 (0, 0))
  sl : SE w v l
  off : ∀ k, v.ownBlock = some k → k ≠ b
/-- What a call leaves of a map. -/
def MOut (b : Nat) (v : Value) (l' : List Ent) (w w' : World) : Prop :=
  ∃ v', MT w' b v' l' ∧ (∀ k, v'.ownBlock = some k → v.ownBlock = some k ∨ w.heap.size ≤ k) ∧ Fr (fun k => k = b) w w'
def MX (b : Nat) (l : List Ent) : Thing := fun w S => ∃ v, MT w b v l ∧ S b ∧ ∀ k, v.ownBlock = some k → S k
section
variable {w w1 : World} {b : Nat} {v v2 : Value} {l l2 : List Ent} {S : Nat → Prop}
theorem MT.lt (h : MT w b v l) : b < w.heap.size := ob_lt h.blk
theorem MT.fr (h : MT w b v l) (hf : Fr S w w1) (hb : ¬ S b) (hn : ∀ k, v.ownBlock = some k → ¬ S k) : MT w1 b v l := ⟨hf.keep hb h.blk, Sl.fr h.sl hf hn, h.off⟩
theorem MT.keep (h : MT w b v l) (hf : Fr (fun _ => False) w w1) : MT w1 b v l := h.fr hf (fun h => h) (fun _ _ h => h)
theorem MX.steady (b : Nat) (l : List Ent) : Steady (MX b l) where
  fr := fun ⟨v, h, hb, ho⟩ hf hn => ⟨v, h.fr hf (hn b hb h.lt) (fun k hk => hn k (ho k hk) (h.sl.lt hk)), hb, ho⟩
  cut := fun ⟨v, h, hb, ho⟩ => ⟨v, h, ⟨hb, h.lt⟩, fun k hk => ⟨ho k hk, h.sl.lt hk⟩⟩
  wide := fun ⟨v, h, hb, ho⟩ hs => ⟨v, h, hs b hb, fun k hk => hs k (ho k hk)⟩
theorem MT.set (h : MT w b v l) (hf : Fr (fun _ => False) w w1) (hs : SE w1 v2 l2) (ho : ∀ k, v2.ownBlock = some k → w.heap.size ≤ k) : MOut b v l2 w (w1.setCell ⟨b, 0, none⟩ v2) := by
  have hb := h.lt
  have h1 := h.keep hf
  refine ⟨v2, ⟨?_, Sl.of hs (fun k hk => ob_setCell _ _ _ _ (by have := ho k hk; show k ≠ b; omega)), fun k hk => by have := ho k hk; omega⟩, fun k hk => .inr (ho k hk), (hf.mono' (fun _ h => h.elim)).setCell _ _ (.inl rfl)⟩
  rw [ob_setCell_same h1.blk]; rfl
theorem MT.same (h : MT w b v l) (hf : Fr (fun _ => False) w w1) : MOut b v l w w1 := ⟨v, h.keep hf, fun k hk => .inl hk, hf.mono' (fun _ h => h.elim)⟩
theorem MX.call {Pg : Program} {f : FuncId} {args : Array Value} {R : Ending → Prop} {l' : List Ent} (hc : ∀ v, MT w b v l → Calls Pg f args w fun e w' => R e ∧ MOut b v l' w w') :
    ∀ S, MX b l w S → Calls Pg f args w fun e w' => R e ∧ MX b l' w' (fun k => S k ∨ w.heap.size ≤ k) ∧ Fr S w w' := by
  rintro S ⟨v, h, hb, ho⟩
  refine (hc v h).mono ?_
  rintro e w' ⟨hR, v', h', ho', hf⟩
  exact ⟨hR, ⟨v', h', .inl hb, fun k hk => (ho' k hk).imp_left (ho k)⟩, hf.mono' (fun k hk => by rw [hk]; exact hb)⟩
theorem vnew_any (w : World) : Calls Try.prog 10 #[] w fun e w' => e = .returned (.pointer (some ⟨w.heap.size, 0, none⟩)) ∧ MT w' w.heap.size (.slice none 0 0) [] ∧ Fr (fun _ => False) w w' := by
  go_enter Try.func10, Try.ntmps10
  go_wp2
  go_ret
  exact ⟨rfl, ⟨ob_new _ _, Sl.nil _ _ _, fun k hk => by cases hk⟩, (Fr.refl _ _).alloc _⟩
theorem made_any (h : MT w b v l) : Calls Try.prog 26 #[.pointer (some ⟨b, 0, none⟩)] w fun e w' => e = .returned (.bool true) ∧ w' = w := by
  have c1 := cell_of_ob h.blk 1
  go_enter Try.func26, Try.ntmps26
  go_wp2
  go_ret
  exact ⟨rfl, rfl⟩
theorem made_nil (w : World) : Calls Try.prog 26 #[.pointer none] w fun e w' => e = .returned (.bool false) ∧ w' = w := by
  go_enter Try.func26, Try.ntmps26
  go_wp2
  go_ret
  exact ⟨rfl, rfl⟩
theorem made_zero {u : Value} (h : ob w b = some (.cells #[u, .bool false] 52 (0, 0))) : Calls Try.prog 26 #[.pointer (some ⟨b, 0, none⟩)] w fun e w' => e = .returned (.bool false) ∧ w' = w := by
  have c1 := cell_of_ob h 1
  go_enter Try.func26, Try.ntmps26
  go_wp2
  go_ret
  exact ⟨rfl, rfl⟩
theorem within_any (lo n : Int) (w : World) : Calls Try.prog 35 #[.int .i64 lo, .int .i64 n] w fun e w' => e = .returned (.bool (withinB lo n)) ∧ w' = w := by
  obtain ⟨q, hq⟩ : ∃ q, withinB lo n = q := ⟨_, rfl⟩
  rw [hq]
  have HQ := Lib.hid hq
  clear hq
  by_cases h1 : 0 ≤ lo
  · by_cases h2 : 1 ≤ n
    · by_cases h3 : n ≤ 4096
      · by_cases h4 : lo ≤ 67108864 - n
        · go_enter Try.func35, Try.ntmps35
          go_wp2
          go_ret
          exact ⟨by rw [← HQ.out, withinB_iff.2 ⟨h1, h2, h3, h4⟩]; rfl, rfl⟩
        · go_enter Try.func35, Try.ntmps35
          go_wp2
          go_ret
          exact ⟨by rw [← HQ.out]; unfold withinB; rw [decide_eq_false (by omega)]; rfl, rfl⟩
      · go_enter Try.func35, Try.ntmps35
        go_wp2
        go_ret
        exact ⟨by rw [← HQ.out]; unfold withinB; rw [decide_eq_false (by omega)]; rfl, rfl⟩
    · go_enter Try.func35, Try.ntmps35
      go_wp2
      go_ret
      exact ⟨by rw [← HQ.out]; unfold withinB; rw [decide_eq_false (by omega)]; rfl, rfl⟩
  · go_enter Try.func35, Try.ntmps35
    go_wp2
    go_ret
    exact ⟨by rw [← HQ.out]; unfold withinB; rw [decide_eq_false (by omega)]; rfl, rfl⟩
theorem ents_any (h : MT w b v l) (hl : l.length ≤ 1000) : Calls Try.prog 12 #[.pointer (some ⟨b, 0, none⟩)] w fun e w' =>
    ∃ v', e = .returned v' ∧ SE w' v' l ∧ Fr (fun _ => False) w w' ∧ ∀ k, v'.ownBlock = some k → w.heap.size ≤ k := by
  have c0 := cell_of_ob h.blk 0
  have hm := made_any h
  have hc := clone_any (Sl.rd h.sl) hl
  go_enter Try.func12, Try.ntmps12
  go_wp2_with fail
  refine hm.mono ?_
  rintro e w1 ⟨rfl, hw⟩; rw [hw]; clear hw w1
  go_wp2_with fail
  refine hc.mono ?_
  rintro e w1 ⟨v', rfl, hs, hf, ho⟩
  go_wp2
  go_ret
  exact ⟨v', rfl, hs, hf, ho⟩
def zeroE : Ent := ⟨0, 0, 0, 0, false, 0, 0, 0, 0, false⟩
def atL (l : List Ent) (p : Int) : Ent := if fok l p then (l[fidx l p]?).getD zeroE else zeroE
set_option maxRecDepth 100000 in
set_option maxHeartbeats 2000000 in
theorem vat_any (h : MT w b v l) (hl : l.length ≤ 1000) (hr : rightB 0 l = true) (p : Int) : Calls Try.prog 23 #[.pointer (some ⟨b, 0, none⟩), .int .i64 p] w fun e w' =>
    e = .returned (.tuple #[.agg #[.int .i64 (atL l p).s, .int .i64 (atL l p).e, .int .i64 (atL l p).f, .int .i64 (atL l p).o, .bool (atL l p).sh, .int .i64 (atL l p).pr, .int .i64 (atL l p).mx, .int .i64 (atL l p).inh, .int .i64 (atL l p).adv, .bool (atL l p).wi], .bool (fok l p)]) ∧ Fr (fun _ => False) w w' := by
  have hm := fun (w1 : World) (hf : Fr (fun _ => False) w w1) => made_any (h.keep hf)
  obtain ⟨A, N, C, hv⟩ := h.sl.shape
  subst hv
  have hfi := fun (w1 : World) (hf : Fr (fun _ => False) w w1) => find_any (Sl.rd (h.keep hf).sl) hl (ends_of_right hr) p
  have HF : ∀ x, l[fidx l p]? = some x → fok l p = true → atL l p = x := fun x hx hk => by unfold atL; rw [hk, hx]; rfl
  have HG : fok l p = false → atL l p = zeroE := fun hk => by unfold atL; rw [hk]; rfl
  have HFO : fok l p = true → ∃ x, l[fidx l p]? = some x := fun hk => by
    unfold fok at hk
    split at hk
    · exact ⟨_, by assumption⟩
    · cases hk
  obtain ⟨i, hi⟩ : ∃ i, fidx l p = i := ⟨_, rfl⟩
  obtain ⟨ok, hok⟩ : ∃ ok, fok l p = ok := ⟨_, rfl⟩
  obtain ⟨y, hy⟩ : ∃ y, atL l p = y := ⟨_, rfl⟩
  rw [hi, hok] at hfi
  rw [hi] at HF HFO
  rw [hok] at HF HG HFO
  rw [hy] at HF HG
  rw [hok, hy]
  clear hi hok hy
  have s0 := h.lt
  have c0 := cell_of_ob h.blk 0
  go_enter Try.func23, Try.ntmps23
  have hfa : Fr (fun _ => False) w (w.alloc (.cells #[.int .i64 zeroE.s, .int .i64 zeroE.e, .int .i64 zeroE.f, .int .i64 zeroE.o, .bool zeroE.sh, .int .i64 zeroE.pr, .int .i64 zeroE.mx, .int .i64 zeroE.inh, .int .i64 zeroE.adv, .bool zeroE.wi] 28)) := (Fr.refl _ _).alloc _
  have hm1 := hm _ hfa
  have hf1 := hfi _ hfa
  simp only [zeroE] at hm1 hf1
  have HFA := Lib.hid hfa
  have HH := Lib.hid h
  clear hm hfi hfa
  cases ok with
  | true =>
    obtain ⟨x, hx⟩ := HFO rfl
    obtain rfl := HF x hx rfl
    have HX := Lib.hid hx
    clear HF HG HFO hx h
    go_wp2_with fail
    refine hm1.mono ?_
    rintro e w1 ⟨rfl, hw⟩; rw [hw]; clear hw w1 hm1
    go_wp2_with fail
    refine hf1.mono ?_
    rintro e w2 ⟨rfl, hf2⟩
    clear hf1
    have hf3 := Fr.also HFA.out hf2
    have h2 := HH.out.keep hf3
    have c2 := cell_of_ob h2.blk 0
    obtain ⟨g, off, n', cap', heq, hgl, hfz, hn, hat⟩ := SE.entry h2.sl HX.out
    cases heq
    obtain ⟨d0, d1, d2, d3, d4, d5, d6, d7, d8, d9⟩ := hat
    have hiN : i < N := by rw [hn]; exact (List.getElem?_eq_some_iff.1 HX.out).1
    have hob2 : ob w2 w.heap.size = some (.cells #[.int .i64 zeroE.s, .int .i64 zeroE.e, .int .i64 zeroE.f, .int .i64 zeroE.o, .bool zeroE.sh, .int .i64 zeroE.pr, .int .i64 zeroE.mx, .int .i64 zeroE.inh, .int .i64 zeroE.adv, .bool zeroE.wi] 28 (0, 0)) := hf2.keep (fun h => h) (ob_new _ _)
    have z2 := fun j => frozen_of_ob hob2 j
    have e2 := fun j => cell_of_ob hob2 j
    have s2 := ob_lt hob2
    have hgw : g ≠ w.heap.size := by
      have h5 := HH.out.sl.lt (k := g) rfl
      omega
    have hob3 : ob (w2.setCells w.heap.size 0 (ent y)) w.heap.size = some (.cells #[.int .i64 y.s, .int .i64 y.e, .int .i64 y.f, .int .i64 y.o, .bool y.sh, .int .i64 y.pr, .int .i64 y.mx, .int .i64 y.inh, .int .i64 y.adv, .bool y.wi] 28 (0, 0)) := by
      have := ob_setCells (ent y) 0 w2 _ hob2
      simpa [rowPut, ent, zeroE] using this
    have HOB := Lib.hid hob3
    have HF4 := Lib.hid (hf3.step (fr_setCells (g := w.heap.size) (ent y) 0 w2) (fun k hk => .inr (by omega)))
    clear h2 hn hf2 hf3 hob2 hob3
    go_wp2
    have k := fun j => cell_of_ob HOB.out j
    have HF := HF4.out
    clear HOB HF4
    change bodyPost _ _ _ _ _ (w2.setCells w.heap.size 0 (ent y))
    generalize w2.setCells w.heap.size 0 (ent y) = W3 at *
    refine bodyPost_ret (v := .tuple #[.agg #[.int .i64 y.s, .int .i64 y.e, .int .i64 y.f, .int .i64 y.o, .bool y.sh, .int .i64 y.pr, .int .i64 y.mx, .int .i64 y.inh, .int .i64 y.adv, .bool y.wi], .bool true]) (by simp [results, Try.results23, go_sem, k]) rfl ⟨rfl, HF⟩
  | false =>
    obtain rfl := HG rfl
    clear HF HG HFO h
    go_wp2_with fail
    refine hm1.mono ?_
    rintro e w1 ⟨rfl, hw⟩; rw [hw]; clear hw w1 hm1
    go_wp2_with fail
    refine hf1.mono ?_
    rintro e w2 ⟨rfl, hf2⟩
    have hob2 : ob w2 w.heap.size = some (.cells #[.int .i64 zeroE.s, .int .i64 zeroE.e, .int .i64 zeroE.f, .int .i64 zeroE.o, .bool zeroE.sh, .int .i64 zeroE.pr, .int .i64 zeroE.mx, .int .i64 zeroE.inh, .int .i64 zeroE.adv, .bool zeroE.wi] 28 (0, 0)) := hf2.keep (fun h => h) (ob_new _ _)
    have z2 := fun j => frozen_of_ob hob2 j
    have e2 := fun j => cell_of_ob hob2 j
    have s2 := ob_lt hob2
    have hob3 : ob (w2.setCells w.heap.size 0 (ent zeroE)) w.heap.size = some (.cells #[.int .i64 zeroE.s, .int .i64 zeroE.e, .int .i64 zeroE.f, .int .i64 zeroE.o, .bool zeroE.sh, .int .i64 zeroE.pr, .int .i64 zeroE.mx, .int .i64 zeroE.inh, .int .i64 zeroE.adv, .bool zeroE.wi] 28 (0, 0)) := by
      have := ob_setCells (ent zeroE) 0 w2 _ hob2
      simpa [rowPut, ent, zeroE] using this
    have HOB := Lib.hid hob3
    have HF4 := Lib.hid ((Fr.also HFA.out hf2).step (fr_setCells (g := w.heap.size) (ent zeroE) 0 w2) (fun k hk => .inr (by omega)))
    clear hf1 hf2 hob2 hob3
    go_wp2
    have k := fun j => cell_of_ob HOB.out j
    have HF := HF4.out
    clear HOB HF4
    change bodyPost _ _ _ _ _ (w2.setCells w.heap.size 0 (ent zeroE))
    generalize w2.setCells w.heap.size 0 (ent zeroE) = W3 at *
    refine bodyPost_ret (v := .tuple #[.agg #[.int .i64 zeroE.s, .int .i64 zeroE.e, .int .i64 zeroE.f, .int .i64 zeroE.o, .bool zeroE.sh, .int .i64 zeroE.pr, .int .i64 zeroE.mx, .int .i64 zeroE.inh, .int .i64 zeroE.adv, .bool zeroE.wi], .bool false]) (by simp [results, Try.results23, go_sem, k]) rfl ⟨rfl, HF⟩
set_option maxRecDepth 100000 in
set_option maxHeartbeats 2000000 in
theorem vunmap_any (h : MT w b v l) (hl : l.length ≤ 390) (hr : rightB 0 l = true) (lo n : Int) : Calls Try.prog 19 #[.pointer (some ⟨b, 0, none⟩), .int .i64 lo, .int .i64 n] w fun e w' =>
    ∃ g, e = .returned (.tuple #[g, .int .i64 (unmapV l lo n).err]) ∧ SE w' g (unmapV l lo n).gone ∧ (∀ k, g.ownBlock = some k → w.heap.size ≤ k ∧ k ≠ b) ∧ MOut b v (unmapV l lo n).l w w' := by
  have hm := made_any h
  have hwi := within_any lo n w
  have c0 := cell_of_ob h.blk 0
  have z0 := frozen_of_ob h.blk 0
  have s0 := h.lt
  have hcu := cut_any (Sl.rd h.sl) (by omega) hr lo (lo + n)
  have hll := left_len lo (lo + n) hr
  have hrl := right_left lo (lo + n) hr
  have HH := Lib.hid h
  cases hq : withinB lo n with
  | false =>
    rw [hq] at hwi
    have HU := Lib.hid (show unmapV l lo n = ⟨0, [], 2, l⟩ by unfold unmapV; rw [if_pos hq])
    rw [HU.out]
    clear hq hcu
    go_enter Try.func19, Try.ntmps19
    go_wp2_with fail
    refine hm.mono ?_
    rintro e w1 ⟨rfl, hw⟩; rw [hw]; clear hw w1
    go_wp2_with fail
    refine hwi.mono ?_
    rintro e w1 ⟨rfl, hw⟩; rw [hw]; clear hw w1
    go_wp2
    go_ret2
    exact ⟨_, rfl, Sl.nil _ _ _, (fun k hk => by cases hk), HH.out.same (Fr.refl _ _)⟩
  | true =>
    rw [hq] at hwi
    have HU := Lib.hid (show unmapV l lo n = ⟨0, goneL l lo (lo + n), 0, mergeL (leftL l lo (lo + n))⟩ by unfold unmapV; rw [if_neg (by rw [hq]; simp)])
    rw [HU.out]
    obtain ⟨g1, g2, g3, g4⟩ := withinB_iff.1 hq
    clear hq
    go_enter Try.func19, Try.ntmps19
    go_wp2_with fail
    refine hm.mono ?_
    rintro e w1 ⟨rfl, hw⟩; rw [hw]; clear hw w1
    go_wp2_with fail
    refine hwi.mono ?_
    rintro e w1 ⟨rfl, hw⟩; rw [hw]; clear hw w1
    go_wp2_with fail
    refine hcu.mono ?_
    rintro e w2 ⟨v1, v2, rfl, hs1, hs2, hf2, ho1, ho2⟩
    clear hcu hwi hm
    obtain ⟨A1, N1, C1, rfl⟩ := hs1.shape
    have hme := merge_any (Sl.rd hs1) (by omega) hrl
    go_wp2_with fail
    refine hme.mono ?_
    rintro e w3 ⟨v3, rfl, hs3, hf3, ho3⟩
    obtain ⟨A3, N3, C3, rfl⟩ := hs3.shape
    clear hme
    have hf23 := Fr.also hf2 hf3
    have h3 := HH.out.keep hf23
    have c3 : w3.cell? ⟨b, 0, none⟩ = some v := cell_of_ob h3.blk 0
    have z3 := frozen_of_ob h3.blk 0
    have hout := HH.out.set hf23 hs3 (fun k hk => Nat.le_trans hf2.size (ho3 k hk))
    have hs2' : SE (w3.setCell ⟨b, 0, none⟩ (.slice A3 N3 C3)) v2 (goneL l lo (lo + n)) := Sl.of (Sl.fr hs2 hf3 (fun _ _ h => h)) (fun k hk => ob_setCell _ _ _ _ (by have := ho2 k hk; show k ≠ b; omega))
    have HO := Lib.hid hout
    have HS := Lib.hid hs2'
    have HOW := Lib.hid (show ∀ k, v2.ownBlock = some k → w.heap.size ≤ k ∧ k ≠ b from fun k hk => ⟨ho2 k hk, by have := ho2 k hk; omega⟩)
    clear hout hs2' hf23 h3 hf3 hf2 hs1 hs2 hs3 ho1 ho2 ho3 h hll hrl hr
    go_wp2
    go_ret2
    exact ⟨v2, rfl, HS.out, HOW.out, HO.out⟩
end
end Go.Proofs.Ytopglbkcciigbaa
