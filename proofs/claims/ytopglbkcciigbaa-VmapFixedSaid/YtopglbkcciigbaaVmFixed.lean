/- VmapFixed returns true: the walk. No conditions. -/
import Derived.Test.YtopglbkcciigbaaVmQ
namespace Go.Proofs.Ytopglbkcciigbaa
open Go.RowKit
set_option linter.unusedSimpArgs false
set_option linter.unusedVariables false
attribute [local go_sem] Oper.semAt_some
theorem map_no {l : List Ent} {a : Int} {x : Ent} {fx : Bool} (h : (mapV l a x fx).err ≠ 0) : (mapV l a x fx).n = 0 ∧ (mapV l a x fx).gone = [] ∧ (mapV l a x fx).l = l := by
  unfold mapV at h ⊢
  split; exact ⟨rfl, rfl, rfl⟩
  split; exact ⟨rfl, rfl, rfl⟩
  rename_i h1 h2
  rw [if_neg h1, if_neg h2] at h
  split
  · rename_i h3; rw [if_pos h3] at h; exact absurd rfl h
  · rename_i h3
    rw [if_neg h3] at h
    split
    · rename_i h4; rw [if_pos h4] at h; exact absurd rfl h
    · exact ⟨rfl, rfl, rfl⟩
/-- What is mapped. -/
structure Mapped (l : List Ent) (a : Int) (x : Ent) (fx : Bool) (R : VR) : Prop where
  s0 : 0 ≤ x.s
  n1 : 1 ≤ x.e - x.s
  n2 : x.e - x.s ≤ 4096
  a0 : 0 ≤ R.n
  am : R.n ≤ 67108864 - (x.e - x.s)
  o0 : 0 ≤ x.o
  o1 : x.o ≤ 4096
  right : rightB 0 R.l = true
  gright : rightB 0 R.gone = true
  glen : R.gone.length ≤ l.length + 2
  at_ : fx = true → R.n = a
  gone : fx = false → R.gone = []
  whole : wholeR R.l R.n (R.n + (x.e - x.s)) = true
  page : ∀ p, R.n ≤ p → p < R.n + (x.e - x.s) → fok R.l p = true ∧ (∃ ys ye yo ysh ymx yin yad, atL R.l p = ⟨ys, ye, x.f, yo, ysh, x.pr, ymx, yin, yad, x.wi⟩ ∧ (0 < x.f → yo + p - ys = x.o + p - R.n)) ∧ fok l p = fok R.gone p ∧ (fok l p = true → fx = true)
theorem map_yes {l : List Ent} {a : Int} {x : Ent} {fx : Bool} (h : VOK l) (hx : WfE x) (he : (mapV l a x fx).err = 0) : Mapped l a x fx (mapV l a x fx) := by
  have hok := (map_ok h a hx fx).1
  unfold mapV at he hok ⊢
  split at he
  · cases he
  rename_i h1
  rw [if_neg h1] at hok ⊢
  split at he
  · cases he
  rename_i h2
  rw [if_neg h2] at hok ⊢
  have hg0 : goodB (atE x 0) = true := by cases hb : goodB (atE x 0); exact absurd (.inl hb) h2; rfl
  obtain ⟨⟨-, q2, -, -, q5⟩, -, q6, q7⟩ := goodB_iff.1 hg0
  have hn1 : 1 ≤ x.e - x.s := by omega
  have hn2 : x.e - x.s ≤ 4096 := by omega
  have ho0 : 0 ≤ x.o := q5
  have ho1 : x.o ≤ 4096 := by
    by_cases hf : x.f = 0
    · have h3 : x.o = 0 := q6 hf
      omega
    · have h3 : x.o ≤ 4096 - (0 + (x.e - x.s) - 0) := q7 hf
      omega
  -- what an insertion at a free place gives
  have key : ∀ (l2 : List Ent) (t : Int), rightB 0 l2 = true → 0 ≤ t → t ≤ 67108864 - (x.e - x.s) → freeB l2 (atE x t) = true →
      insL l2 (atE x t) = insAt l2 (atE x t) ∧ rightB 0 (insAt l2 (atE x t)) = true ∧ wholeR (mergeL (insAt l2 (atE x t))) t (t + (x.e - x.s)) = true ∧
      ∀ p, t ≤ p → p < t + (x.e - x.s) → fok (mergeL (insAt l2 (atE x t))) p = true ∧ ∃ ys ye yo ysh ymx yin yad, atL (mergeL (insAt l2 (atE x t))) p = ⟨ys, ye, x.f, yo, ysh, x.pr, ymx, yin, yad, x.wi⟩ ∧ (0 < x.f → yo + p - ys = x.o + p - t) := by
    intro l2 t hr t0 t1 hfr
    have hg := good_at hg0 t0 t1
    have hri := right_ins hg hr (goodE_of hg).s0 hfr
    have hpg : ∀ p, t ≤ p → p < t + (x.e - x.s) → pv (mergeL (insAt l2 (atE x t))) p = some (attr (atE x t) p) := fun p p0 p1 => by
      rw [pv_merge hri, pv_ins hr hg hfr, if_pos ⟨p0, p1⟩]
    refine ⟨by unfold insL insOk; rw [hg, hfr]; rfl, hri, ?_, fun p p0 p1 => ?_⟩
    · rw [whole_cov (rightB_merge hri)]
      intro p p0 p1
      refine (fok_cov (rightB_merge hri)).1 ?_
      rw [pv_fok, hpg p p0 p1]; rfl
    · have h3 := hpg p p0 p1
      have h4 : fok (mergeL (insAt l2 (atE x t))) p = true := by rw [pv_fok, h3]; rfl
      rw [pv_at h4] at h3
      refine ⟨h4, ?_⟩
      obtain ⟨⟨ys, ye, yf, yo, ysh, ypr, ymx, yin, yad, ywi⟩, hy⟩ : ∃ y, atL (mergeL (insAt l2 (atE x t))) p = y := ⟨_, rfl⟩
      rw [hy] at h3 ⊢
      have h5 := Option.some.inj h3
      simp only [attr, atE, Att.mk.injEq] at h5
      obtain ⟨rfl, -, rfl, -, -, -, rfl, a8⟩ := h5
      refine ⟨ys, ye, yo, ysh, ymx, yin, yad, rfl, fun hf0 => ?_⟩
      have h6 : (if 0 < x.f then yo + p - ys else 0) = if 0 < x.f then x.o + p - t else 0 := a8
      rw [if_pos hf0, if_pos hf0] at h6
      exact h6
  cases fx with
  | true =>
    rw [if_pos rfl] at hok ⊢
    have hwi : withinB a (x.e - x.s) = true := by cases hb : withinB a (x.e - x.s); exact absurd (.inr ⟨rfl, hb⟩) h2; rfl
    obtain ⟨w1, w2, w3, w4⟩ := withinB_iff.1 hwi
    have hr := right_left a (a + (x.e - x.s)) h.right
    obtain ⟨k1, k2, k3, k4⟩ := key (leftL l a (a + (x.e - x.s))) a hr w1 w4 (free_left (e := atE x a) h.right (good_at hg0 w1 w4))
    rw [k1] at hok ⊢
    refine ⟨by omega, hn1, hn2, w1, w4, ho0, ho1, hok.right, right_gone _ _ h.right, gone_len _ _ h.right, fun _ => rfl, (fun hc => by cases hc), k3, fun p p0 p1 => ?_⟩
    refine ⟨(k4 p p0 p1).1, (k4 p p0 p1).2, ?_, fun _ => rfl⟩
    show fok l p = fok (goneL l a (a + (x.e - x.s))) p
    rw [pv_fok, pv_fok, pv_gone h.right, if_pos ⟨p0, p1⟩]
  | false =>
    rw [if_neg (by simp)] at he hok ⊢
    split at he
    · rename_i hs
      rw [if_pos hs] at hok ⊢
      obtain ⟨⟨t, ok⟩, ht⟩ : ∃ r, spaceF l a (x.e - x.s) = r := ⟨_, rfl⟩
      rw [ht] at hs hok ⊢
      have hs2 : ok = true := hs
      subst hs2
      have hsp := space_yes ht h.right
      have hfr := free_space (e := atE x t) h.right (good_at hg0 hsp.a0 hsp.am) (by
        have : (atE x t).e - (atE x t).s = x.e - x.s := by show t + (x.e - x.s) - t = _; omega
        rw [this]; exact hsp)
      obtain ⟨k1, k2, k3, k4⟩ := key l t h.right hsp.a0 hsp.am hfr
      dsimp only at hok ⊢
      rw [k1] at hok ⊢
      have hno : ∀ p, t ≤ p → p < t + (x.e - x.s) → fok l p = false := fun p p0 p1 => (pv_none fun y hy hp => by
        unfold has at hp
        rcases hsp.free y hy with hh | hh <;> omega).2
      refine ⟨by omega, hn1, hn2, hsp.a0, hsp.am, ho0, ho1, hok.right, rfl, Nat.zero_le _, (fun hc => by cases hc), fun _ => rfl, k3, fun p p0 p1 => ?_⟩
      exact ⟨(k4 p p0 p1).1, (k4 p p0 p1).2, by rw [hno p p0 p1]; rfl, fun hc => by rw [hno p p0 p1] at hc; cases hc⟩
    · cases he
theorem page3 {at0 n : Int} (h : 1 ≤ n) (j : Nat) (hj : j < 3) : ∃ q, ([at0, at0 + n - 1, at0 + n / 2] : List Int)[j]? = some q ∧ at0 ≤ q ∧ q < at0 + n := by
  match j, hj with
  | 0, _ => exact ⟨_, rfl, by omega, by omega⟩
  | 1, _ => exact ⟨_, rfl, by omega, by omega⟩
  | 2, _ => exact ⟨_, rfl, by omega, by omega⟩
set_option maxRecDepth 100000 in
set_option maxHeartbeats 16000000 in
theorem fixed_walk (W : World) (A : Option Addr) (N C : Nat) (acts : List VAct) (a : VAct) (hx0 : Rd W 15 (.slice A N C) (acts.flatMap actC)) (hN : N = acts.length) (hw : ∀ a ∈ acts, WfA a) (ha : WfA a) :
    Calls Try.prog 7 #[.slice A N C, .agg #[.int .i64 a.kd, .int .i64 a.lo, .int .i64 a.pg, .int .i64 a.hw, .int .i64 a.x.s, .int .i64 a.x.e, .int .i64 a.x.f, .int .i64 a.x.o, .bool a.x.sh, .int .i64 a.x.pr, .int .i64 a.x.mx, .int .i64 a.x.inh, .int .i64 a.x.adv, .bool a.x.wi, .bool a.on]] W fun e w' => e = .returned (.bool true) ∧ Fr (fun _ => False) W w' := by
  obtain ⟨W1, hW1⟩ : ∃ W1, W.alloc (.cells #[.int .i64 a.kd, .int .i64 a.lo, .int .i64 a.pg, .int .i64 a.hw, .int .i64 a.x.s, .int .i64 a.x.e, .int .i64 a.x.f, .int .i64 a.x.o, .bool a.x.sh, .int .i64 a.x.pr, .int .i64 a.x.mx, .int .i64 a.x.inh, .int .i64 a.x.adv, .bool a.x.wi, .bool a.on] 30) = W1 := ⟨_, rfl⟩
  obtain ⟨b3, hb3⟩ : ∃ b3, W.heap.size = b3 := ⟨_, rfl⟩
  have hfa : Fr (fun _ => False) W W1 := by rw [← hW1]; exact (Fr.refl _ _).alloc _
  have hob : ob W1 b3 = some (.cells #[.int .i64 a.kd, .int .i64 a.lo, .int .i64 a.pg, .int .i64 a.hw, .int .i64 a.x.s, .int .i64 a.x.e, .int .i64 a.x.f, .int .i64 a.x.o, .bool a.x.sh, .int .i64 a.x.pr, .int .i64 a.x.mx, .int .i64 a.x.inh, .int .i64 a.x.adv, .bool a.x.wi, .bool a.on] 30 (0, 0)) := by rw [← hW1, ← hb3]; exact ob_new _ _
  have hx := hx0.of hfa (fun _ h => h.elim)
  have HFA := Lib.hid hfa
  have HOB := Lib.hid hob
  have HWA0 := Lib.hid ha
  clear hx0 hfa hob ha
  have HN := Lib.hid hN
  have HW := Lib.hid hw
  have HX := Lib.hid (show ∀ w', Fr (fun _ => False) W1 w' → Rd w' 15 (.slice A N C) (acts.flatMap actC) from fun w' hf => hx.of hf (fun _ h => h.elim))
  clear hN hw hx
  by_cases hbig : 40 < N
  · go_enter Try.func7, Try.ntmps7
    go_wp2_with fail
    refine (vlives_any _).mono ?_
    rintro e w9 ⟨rfl, hf9⟩
    have HF9 := Lib.hid (HFA.out.also hf9)
    clear hf9
    go_wp2
    go_ret
    exact ⟨rfl, HF9.out⟩
  · have hN6 : N ≤ 40 := by omega
    clear hbig
    go_enter Try.func7, Try.ntmps7
    go_wp2_with fail
    try rw [hW1]
    try rw [hb3]
    clear hW1 hb3
    refine (vnew_any W1).mono ?_
    rintro e w1 ⟨rfl, hm1, hf1⟩
    obtain ⟨b0, hb0⟩ : ∃ b0, W1.heap.size = b0 := ⟨_, rfl⟩
    rw [hb0] at hm1
    simp only [hb0]
    have HI0 := Lib.hid (show Inv W1 w1 b0 (.slice none 0 0) [] 0 from ⟨VOK.nil, by simp, by omega, (fun k hk => by cases hk), hf1⟩)
    clear hb0 hf1
    go_wp2_with fail
    go_loopw [5, 28] (fun sm si wr => ∃ (t b : Nat) (v : Value) (l : List Ent), t ≤ N ∧ si = .int .i64 t ∧ sm = .pointer (some ⟨b, 0, none⟩) ∧ MT wr b v l ∧ Hid (Inv W1 wr b v l t)) (fun _ si _ => N - (intOf si).toNat)
    case atStart => exact ⟨0, b0, .slice none 0 0, [], Nat.zero_le _, rfl, rfl, hm1, HI0⟩
    case round =>
      clear hm1
      obtain ⟨t, b, v, l, ht, rfl, rfl, hm, HI⟩ := hrel
      by_cases hlt : t < N
      · obtain ⟨z, hat⟩ : ∃ z, acts[t]? = some z := ⟨_, List.getElem?_eq_getElem (by have := HN.out; omega)⟩
        obtain ⟨g, off, n', cap', heq, hgl, hcs⟩ := Rd.at actC_len (by decide) (HX.out wr HI.out.fr) hat
        cases heq
        have d0 : wr.cell? ⟨g, off + t * 15, none⟩ = some (.int .i64 z.kd) := hcs 0 _ rfl
        have d1 : wr.cell? ⟨g, off + t * 15 + 1, none⟩ = some (.int .i64 z.lo) := hcs 1 _ rfl
        have d2 : wr.cell? ⟨g, off + t * 15 + 2, none⟩ = some (.int .i64 z.pg) := hcs 2 _ rfl
        have d3 : wr.cell? ⟨g, off + t * 15 + 3, none⟩ = some (.int .i64 z.hw) := hcs 3 _ rfl
        have d4 : wr.cell? ⟨g, off + t * 15 + 4, none⟩ = some (.int .i64 z.x.s) := hcs 4 _ rfl
        have d5 : wr.cell? ⟨g, off + t * 15 + 5, none⟩ = some (.int .i64 z.x.e) := hcs 5 _ rfl
        have d6 : wr.cell? ⟨g, off + t * 15 + 6, none⟩ = some (.int .i64 z.x.f) := hcs 6 _ rfl
        have d7 : wr.cell? ⟨g, off + t * 15 + 7, none⟩ = some (.int .i64 z.x.o) := hcs 7 _ rfl
        have d8 : wr.cell? ⟨g, off + t * 15 + 8, none⟩ = some (.bool z.x.sh) := hcs 8 _ rfl
        have d9 : wr.cell? ⟨g, off + t * 15 + 9, none⟩ = some (.int .i64 z.x.pr) := hcs 9 _ rfl
        have d10 : wr.cell? ⟨g, off + t * 15 + 10, none⟩ = some (.int .i64 z.x.mx) := hcs 10 _ rfl
        have d11 : wr.cell? ⟨g, off + t * 15 + 11, none⟩ = some (.int .i64 z.x.inh) := hcs 11 _ rfl
        have d12 : wr.cell? ⟨g, off + t * 15 + 12, none⟩ = some (.int .i64 z.x.adv) := hcs 12 _ rfl
        have d13 : wr.cell? ⟨g, off + t * 15 + 13, none⟩ = some (.bool z.x.wi) := hcs 13 _ rfl
        have d14 : wr.cell? ⟨g, off + t * 15 + 14, none⟩ = some (.bool z.on) := hcs 14 _ rfl
        have HWA := Lib.hid (HW.out z (List.mem_of_getElem? hat))
        have hfa : Fr (fun _ => False) wr (wr.alloc (.cells #[.int .i64 z.kd, .int .i64 z.lo, .int .i64 z.pg, .int .i64 z.hw, .int .i64 z.x.s, .int .i64 z.x.e, .int .i64 z.x.f, .int .i64 z.x.o, .bool z.x.sh, .int .i64 z.x.pr, .int .i64 z.x.mx, .int .i64 z.x.inh, .int .i64 z.x.adv, .bool z.x.wi, .bool z.on] 30)) := (Fr.refl _ _).alloc _
        have hact := act_any (hm.keep hfa) (by have := HI.out.len; omega) HI.out.ok.right z HWA.out.x
        simp only [actC, ent, List.cons_append, List.nil_append] at hact
        have HFA := Lib.hid hfa
        clear hat hcs hgl hfa hm
        go_wp2_with fail
        refine hact.mono ?_
        rintro e w5 ⟨b', v', gn, rfl, hsg, hog, hm5, hkd, hov, hf5⟩
        have HNEW := Lib.hid (HI.out.act HFA.out HWA.out.x hkd hov hf5)
        have HM5 := Lib.hid hm5
        clear hact d0 d1 d2 d3 d4 d5 d6 d7 d8 d9 d10 d11 d12 d13 d14 hm5 hkd hov hf5 hsg hog
        go_wp2
        go_roundw
        case rel => exact ⟨t + 1, b', v', _, by omega, by go_num, rfl, HM5.out, HNEW⟩
        case measure => simp [intOf]; omega
      · obtain rfl : t = N := by omega
        have hl9 : l.length ≤ 120 := by have := HI.out.len; omega
        have hen := ents_any hm (by omega)
        have HM := Lib.hid hm
        clear hm
        go_wp2_with fail
        refine hen.mono ?_
        rintro e w2 ⟨was, rfl, hsw, hf2, how⟩
        clear hen
        obtain ⟨Aw, Nw, Cw, rfl⟩ := hsw.shape
        have h2 := HM.out.keep hf2
        have hmp := vmapm_any h2 (by omega) HI.out.ok.right a.lo a.x HWA0.out.x a.on
        have hob2 := (HI.out.fr.also hf2).keep (fun h => h) HOB.out
        have e2 := fun i => cell_of_ob hob2 i
        have r0 : w2.cell? ⟨b3, 0, none⟩ = some (.int .i64 a.kd) := e2 0
        have r1 : w2.cell? ⟨b3, 1, none⟩ = some (.int .i64 a.lo) := e2 1
        have r2 : w2.cell? ⟨b3, 2, none⟩ = some (.int .i64 a.pg) := e2 2
        have r3 : w2.cell? ⟨b3, 3, none⟩ = some (.int .i64 a.hw) := e2 3
        have r4 : w2.cell? ⟨b3, 4, none⟩ = some (.int .i64 a.x.s) := e2 4
        have r5 : w2.cell? ⟨b3, 5, none⟩ = some (.int .i64 a.x.e) := e2 5
        have r6 : w2.cell? ⟨b3, 6, none⟩ = some (.int .i64 a.x.f) := e2 6
        have r7 : w2.cell? ⟨b3, 7, none⟩ = some (.int .i64 a.x.o) := e2 7
        have r8 : w2.cell? ⟨b3, 8, none⟩ = some (.bool a.x.sh) := e2 8
        have r9 : w2.cell? ⟨b3, 9, none⟩ = some (.int .i64 a.x.pr) := e2 9
        have r10 : w2.cell? ⟨b3, 10, none⟩ = some (.int .i64 a.x.mx) := e2 10
        have r11 : w2.cell? ⟨b3, 11, none⟩ = some (.int .i64 a.x.inh) := e2 11
        have r12 : w2.cell? ⟨b3, 12, none⟩ = some (.int .i64 a.x.adv) := e2 12
        have r13 : w2.cell? ⟨b3, 13, none⟩ = some (.bool a.x.wi) := e2 13
        have r14 : w2.cell? ⟨b3, 14, none⟩ = some (.bool a.on) := e2 14
        have s2 := ob_lt hob2
        have HSW := Lib.hid hsw
        have HF2 := Lib.hid hf2
        have HOW := Lib.hid (show ∀ k, (Value.slice Aw Nw Cw).ownBlock = some k → k ≠ b from fun k hk => by have := how k hk; have := HM.out.lt; omega)
        clear e2 hob2 hsw hf2 how h2
        go_wp2_with fail
        refine hmp.mono ?_
        rintro e w3 ⟨gv, rfl, hsg, hog, ho⟩
        clear hmp r0 r1 r2 r3 r4 r5 r6 r7 r8 r9 r10 r11 r12 r13 r14
        obtain ⟨Ag, Ng, Cg, rfl⟩ := hsg.shape
        obtain ⟨v3, hm3, hov, hf3⟩ := ho
        have hwas3 : SE w3 (.slice Aw Nw Cw) l := Sl.fr HSW.out hf3 (fun k hk e => HOW.out k hk e)
        have hokR := map_ok HI.out.ok a.lo HWA0.out.x a.on
        have hno := map_no (l := l) (a := a.lo) (x := a.x) (fx := a.on)
        have hyes := map_yes (a := a.lo) (fx := a.on) HI.out.ok HWA0.out.x
        obtain ⟨R, hR⟩ : ∃ R, mapV l a.lo a.x a.on = R := ⟨_, rfl⟩
        rw [hR] at hsg hm3 hokR hno hyes
        simp only [hR]
        have hlo1 := HI.out.lo
        have hfr1 := HI.out.fr.size
        have hf13 : Fr (fun _ => False) W1 w3 := (HI.out.fr.also HF2.out).step hf3 (fun k hk => .inr (by omega))
        have HNG := Lib.hid (show Ng = R.gone.length from SE.elen hsg)
        have HSG := Lib.hid hsg
        have HM3 := Lib.hid hm3
        have HW3 := Lib.hid hwas3
        have HF13 := Lib.hid hf13
        have HRO := Lib.hid hokR
        have HNO := Lib.hid hno
        have HYES := Lib.hid hyes
        obtain ⟨Rn, Rg, Re, Rl⟩ := R
        dsimp only at *
        clear hR hsg hm3 hokR hno hyes hwas3 hf13 hlo1 hfr1 hf3 hov hog
        by_cases hz : Re = 0
        · subst hz
          obtain ⟨p1, p2, p3, p4, p5, p6, p7, p8, p9, p10, p11, p12, p13, p14⟩ := HYES.out rfl
          dsimp only at *
          have hob3 := HF13.out.keep (fun h => h) HOB.out
          have e3 := fun i => cell_of_ob hob3 i
          have r0 : w3.cell? ⟨b3, 0, none⟩ = some (.int .i64 a.kd) := e3 0
          have r1 : w3.cell? ⟨b3, 1, none⟩ = some (.int .i64 a.lo) := e3 1
          have r2 : w3.cell? ⟨b3, 2, none⟩ = some (.int .i64 a.pg) := e3 2
          have r3 : w3.cell? ⟨b3, 3, none⟩ = some (.int .i64 a.hw) := e3 3
          have r4 : w3.cell? ⟨b3, 4, none⟩ = some (.int .i64 a.x.s) := e3 4
          have r5 : w3.cell? ⟨b3, 5, none⟩ = some (.int .i64 a.x.e) := e3 5
          have r6 : w3.cell? ⟨b3, 6, none⟩ = some (.int .i64 a.x.f) := e3 6
          have r7 : w3.cell? ⟨b3, 7, none⟩ = some (.int .i64 a.x.o) := e3 7
          have r8 : w3.cell? ⟨b3, 8, none⟩ = some (.bool a.x.sh) := e3 8
          have r9 : w3.cell? ⟨b3, 9, none⟩ = some (.int .i64 a.x.pr) := e3 9
          have r10 : w3.cell? ⟨b3, 10, none⟩ = some (.int .i64 a.x.mx) := e3 10
          have r11 : w3.cell? ⟨b3, 11, none⟩ = some (.int .i64 a.x.inh) := e3 11
          have r12 : w3.cell? ⟨b3, 12, none⟩ = some (.int .i64 a.x.adv) := e3 12
          have r13 : w3.cell? ⟨b3, 13, none⟩ = some (.bool a.x.wi) := e3 13
          have r14 : w3.cell? ⟨b3, 14, none⟩ = some (.bool a.on) := e3 14
          have s3 := ob_lt hob3
          obtain ⟨nn, hnn⟩ : ∃ nn, a.x.e - a.x.s = nn := ⟨_, rfl⟩
          rw [hnn] at p2 p3 p5 p13
          obtain ⟨k2, k3⟩ := wf_i64 HWA0.out.x.e
          have HPG := Lib.hid (show ∀ p, Rn ≤ p → p < Rn + nn → _ from fun p q0 q1 => p14 p q0 (by omega))
          have HP8 := Lib.hid p8
          have HP9 := Lib.hid p9
          have HP10 := Lib.hid p10
          have HP11 := Lib.hid p11
          have HP12 := Lib.hid p12
          have HP13 := Lib.hid p13
          clear e3 hob3 p8 p9 p10 p11 p12 p13 p14
          go_wp2_with fail
          try simp only [hnn]
          obtain ⟨bs, hbs⟩ : ∃ bs, w3.heap.size = bs := ⟨_, rfl⟩
          obtain ⟨W4, hW4⟩ : ∃ W4, w3.alloc (.cells #[.int .i64 Rn, .int .i64 (Rn + nn - 1), .int .i64 (Rn + nn / 2)] 3) = W4 := ⟨_, rfl⟩
          have ob4 : ob W4 bs = some (.cells #[.int .i64 Rn, .int .i64 (Rn + nn - 1), .int .i64 (Rn + nn / 2)] 3 (0, 0)) := by rw [← hW4, ← hbs]; exact ob_new _ _
          have HF4 := Lib.hid (show Fr (fun _ => False) w3 W4 by rw [← hW4]; exact (Fr.refl _ _).alloc _)
          have HOB4 := Lib.hid ob4
          rw [hW4, hbs]
          clear hW4 hbs ob4 r0 r1 r2 r3 r4 r5 r6 r7 r8 r9 r10 r11 r12 r13 r14
          have HNN := Lib.hid hnn
          clear hnn
          go_loopw [91] (fun sj v => ∃ j : Nat, j ≤ 3 ∧ sj = .int .i64 j ∧ Hid (Fr (fun _ => False) W4 v)) (fun sj _ => 3 - (intOf sj).toNat)
          case atStart => exact ⟨0, by omega, rfl, Lib.hid (Fr.refl _ _)⟩
          case round =>
            obtain ⟨j, hj, rfl, HV⟩ := hrel
            have HFW := Lib.hid (HF4.out.also HV.out)
            by_cases hlt2 : j < 3
            · obtain ⟨q, hq, q0, q1⟩ := page3 (at0 := Rn) p2 j hlt2
              have hobs := HV.out.keep (fun h => h) HOB4.out
              have c0 : wr.cell? ⟨bs, j, none⟩ = some (.int .i64 q) := by
                rw [cell_of_ob hobs]
                match j, hlt2, hq with
                | 0, _, hq => cases hq; rfl
                | 1, _, hq => cases hq; rfl
                | 2, _, hq => cases hq; rfl
              obtain ⟨hfk, ⟨ys, ye, yo, ysh, ymx, yin, yad, hy, hyo⟩, hlost, hhad⟩ := HPG.out q q0 q1
              have hgy := (at_good HP8.out hfk).1
              have hat := vat_any (HM3.out.keep HFW.out) (by have := HRO.out.2; omega) HP8.out q
              rw [hfk, hy] at hat
              rw [hy] at hgy
              obtain ⟨y1, y2, y3, y4, y5, y6, y7⟩ := hgy
              dsimp only at *
              have y8 : yo ≤ 4096 := by by_cases hf : a.x.f = 0; · have := y6 hf; omega
                                        · have := y7 (by omega); omega
              have HYO := Lib.hid hyo
              have HLO := Lib.hid hlost
              have HHA := Lib.hid hhad
              have sbs := ob_lt hobs
              clear hq hobs hfk hy hyo hlost hhad y6 y7
              have hdj : decide ((j : Int) < 3) = true := decide_eq_true (by omega)
              go_wp2_with fail
              refine hat.mono ?_
              rintro e w5 ⟨rfl, hf5⟩
              clear hat c0
              have hf5a : Fr (fun _ => False) W4 (w5.alloc (.cells #[.int .i64 ys, .int .i64 ye, .int .i64 a.x.f, .int .i64 yo, .bool ysh, .int .i64 a.x.pr, .int .i64 ymx, .int .i64 yin, .int .i64 yad, .bool a.x.wi] 28)) := (HV.out.also hf5).alloc _
              have hob5 := (HF13.out.also (HF4.out.also (HV.out.also hf5))).keep (fun h => h) HOB.out
              have e5 := fun i => cell_of_ob hob5 i
              have r0 : w5.cell? ⟨b3, 0, none⟩ = some (.int .i64 a.kd) := e5 0
              have r1 : w5.cell? ⟨b3, 1, none⟩ = some (.int .i64 a.lo) := e5 1
              have r2 : w5.cell? ⟨b3, 2, none⟩ = some (.int .i64 a.pg) := e5 2
              have r3 : w5.cell? ⟨b3, 3, none⟩ = some (.int .i64 a.hw) := e5 3
              have r4 : w5.cell? ⟨b3, 4, none⟩ = some (.int .i64 a.x.s) := e5 4
              have r5 : w5.cell? ⟨b3, 5, none⟩ = some (.int .i64 a.x.e) := e5 5
              have r6 : w5.cell? ⟨b3, 6, none⟩ = some (.int .i64 a.x.f) := e5 6
              have r7 : w5.cell? ⟨b3, 7, none⟩ = some (.int .i64 a.x.o) := e5 7
              have r8 : w5.cell? ⟨b3, 8, none⟩ = some (.bool a.x.sh) := e5 8
              have r9 : w5.cell? ⟨b3, 9, none⟩ = some (.int .i64 a.x.pr) := e5 9
              have r10 : w5.cell? ⟨b3, 10, none⟩ = some (.int .i64 a.x.mx) := e5 10
              have r11 : w5.cell? ⟨b3, 11, none⟩ = some (.int .i64 a.x.inh) := e5 11
              have r12 : w5.cell? ⟨b3, 12, none⟩ = some (.int .i64 a.x.adv) := e5 12
              have r13 : w5.cell? ⟨b3, 13, none⟩ = some (.bool a.x.wi) := e5 13
              have r14 : w5.cell? ⟨b3, 14, none⟩ = some (.bool a.on) := e5 14
              have s5 := ob_lt hob5
              have HF5 := Lib.hid hf5a
              have hfw := find_any (Sl.rd (Sl.fr HW3.out (HF4.out.also hf5a) (fun _ _ h => h))) (by omega) (ends_of_right HI.out.ok.right) q
              obtain ⟨had, hhad⟩ : ∃ had, fok l q = had := ⟨_, rfl⟩
              rw [hhad] at hfw HLO HHA
              clear e5 hob5 hf5 hf5a hhad
              by_cases hf0 : 0 < a.x.f
              · have hbz : (yo + q - ys != a.x.o + q - Rn) = false := by have := HYO.out hf0; simp; omega
                go_wp2_with fail
                refine hfw.mono ?_
                rintro e w6 ⟨rfl, hf6⟩
                clear hfw
                have hfg := find_any (Sl.rd (Sl.fr HSG.out (HF4.out.also (HF5.out.also hf6)) (fun _ _ h => h))) (by have := HP10.out; omega) (ends_of_right HP9.out) q
                rw [← HLO.out] at hfg
                have hob6 := (HF13.out.also (HF4.out.also (HF5.out.also hf6))).keep (fun h => h) HOB.out
                have e6 := fun i => cell_of_ob hob6 i
                clear r0 r1 r2 r3 r4 r5 r6 r7 r8 r9 r10 r11 r12 r13 r14
                have HF6 := Lib.hid (HF5.out.also hf6)
                have HOB6 := Lib.hid hob6
                clear e6 hob6 hf6
                go_wp2_with fail
                refine hfg.mono ?_
                rintro e w7 ⟨rfl, hf7⟩
                clear hfg
                have HF7 := Lib.hid (HF6.out.also hf7)
                have hob7 := hf7.keep (fun h => h) HOB6.out
                have r14 : w7.cell? ⟨b3, 14, none⟩ = some (.bool a.on) := cell_of_ob hob7 14
                have s7 := ob_lt hob7
                clear hf7 hob7
                cases had with
                | false =>
                  go_wp2
                  go_roundw
                  case rel => exact ⟨j + 1, by omega, by go_num, HF7⟩
                  case measure => simp [intOf]; omega
                | true =>
                  have hon := HHA.out rfl
                  rw [hon] at r14
                  clear hon
                  go_wp2
                  go_roundw
                  case rel => exact ⟨j + 1, by omega, by go_num, HF7⟩
                  case measure => simp [intOf]; omega
              · 
                go_wp2_with fail
                refine hfw.mono ?_
                rintro e w6 ⟨rfl, hf6⟩
                clear hfw
                have hfg := find_any (Sl.rd (Sl.fr HSG.out (HF4.out.also (HF5.out.also hf6)) (fun _ _ h => h))) (by have := HP10.out; omega) (ends_of_right HP9.out) q
                rw [← HLO.out] at hfg
                have hob6 := (HF13.out.also (HF4.out.also (HF5.out.also hf6))).keep (fun h => h) HOB.out
                have e6 := fun i => cell_of_ob hob6 i
                clear r0 r1 r2 r3 r4 r5 r6 r7 r8 r9 r10 r11 r12 r13 r14
                have HF6 := Lib.hid (HF5.out.also hf6)
                have HOB6 := Lib.hid hob6
                clear e6 hob6 hf6
                go_wp2_with fail
                refine hfg.mono ?_
                rintro e w7 ⟨rfl, hf7⟩
                clear hfg
                have HF7 := Lib.hid (HF6.out.also hf7)
                have hob7 := hf7.keep (fun h => h) HOB6.out
                have r14 : w7.cell? ⟨b3, 14, none⟩ = some (.bool a.on) := cell_of_ob hob7 14
                have s7 := ob_lt hob7
                clear hf7 hob7
                cases had with
                | false =>
                  go_wp2
                  go_roundw
                  case rel => exact ⟨j + 1, by omega, by go_num, HF7⟩
                  case measure => simp [intOf]; omega
                | true =>
                  have hon := HHA.out rfl
                  rw [hon] at r14
                  clear hon
                  go_wp2
                  go_roundw
                  case rel => exact ⟨j + 1, by omega, by go_num, HF7⟩
                  case measure => simp [intOf]; omega
            · obtain rfl : j = 3 := by omega
              have hdj : decide ((3 : Int) < 3) = false := by decide
              have hob5 := (HF13.out.also HFW.out).keep (fun h => h) HOB.out
              have e5 := fun i => cell_of_ob hob5 i
              have r0 : wr.cell? ⟨b3, 0, none⟩ = some (.int .i64 a.kd) := e5 0
              have r1 : wr.cell? ⟨b3, 1, none⟩ = some (.int .i64 a.lo) := e5 1
              have r2 : wr.cell? ⟨b3, 2, none⟩ = some (.int .i64 a.pg) := e5 2
              have r3 : wr.cell? ⟨b3, 3, none⟩ = some (.int .i64 a.hw) := e5 3
              have r4 : wr.cell? ⟨b3, 4, none⟩ = some (.int .i64 a.x.s) := e5 4
              have r5 : wr.cell? ⟨b3, 5, none⟩ = some (.int .i64 a.x.e) := e5 5
              have r6 : wr.cell? ⟨b3, 6, none⟩ = some (.int .i64 a.x.f) := e5 6
              have r7 : wr.cell? ⟨b3, 7, none⟩ = some (.int .i64 a.x.o) := e5 7
              have r8 : wr.cell? ⟨b3, 8, none⟩ = some (.bool a.x.sh) := e5 8
              have r9 : wr.cell? ⟨b3, 9, none⟩ = some (.int .i64 a.x.pr) := e5 9
              have r10 : wr.cell? ⟨b3, 10, none⟩ = some (.int .i64 a.x.mx) := e5 10
              have r11 : wr.cell? ⟨b3, 11, none⟩ = some (.int .i64 a.x.inh) := e5 11
              have r12 : wr.cell? ⟨b3, 12, none⟩ = some (.int .i64 a.x.adv) := e5 12
              have r13 : wr.cell? ⟨b3, 13, none⟩ = some (.bool a.x.wi) := e5 13
              have r14 : wr.cell? ⟨b3, 14, none⟩ = some (.bool a.on) := e5 14
              have s5 := ob_lt hob5
              have hen := ents_any (HM3.out.keep HFW.out) (by have := HRO.out.2; omega)
              clear e5 hob5
              have hba : (!a.on || (Rn == a.lo)) = true := by cases hon : a.on; rfl; simp [HP11.out hon]
              have hbb : a.on = true ∨ Ng = 0 := by cases hon : a.on; exact .inr (by rw [HNG.out, HP12.out hon]; rfl); exact .inl rfl
              cases hon : a.on with
              | true =>
                have hat0 : (Rn == a.lo) = true := by rw [HP11.out hon]; simp
                rw [hon] at r14
                clear hba hbb
                have HON := Lib.hid hon
                clear hon
                go_wp2_with fail
                refine hen.mono ?_
                rintro e w6 ⟨x6, rfl, hs6, hf6, ho6⟩
                clear hen r0 r1 r2 r3 r4 r5 r6 r7 r8 r9 r10 r11 r12 r13 r14
                obtain ⟨A6, N6, C6, rfl⟩ := hs6.shape
                have hwo := whole_any (Sl.rd hs6) (by have := HRO.out.2; omega) HP8.out Rn (Rn + nn)
                rw [HP13.out] at hwo
                have HF6 := Lib.hid (HF13.out.also (HFW.out.also hf6))
                clear hs6 hf6 ho6
                go_wp2_with fail
                refine hwo.mono ?_
                rintro e w7 ⟨rfl, hf7⟩
                have HF7 := Lib.hid (HF6.out.also hf7)
                clear hwo hf7
                go_wp2_with fail
                refine (vlives_any w7).mono ?_
                rintro e w12 ⟨rfl, hf12⟩
                have HF12 := Lib.hid (HFA.out.also (HF7.out.also hf12))
                clear hf12
                go_wp2
                go_ret
                exact ⟨rfl, HF12.out⟩
              | false =>
                have hng : Ng = 0 := by rcases hbb with h | h; rw [hon] at h; cases h; exact h
                subst hng
                rw [hon] at r14
                clear hba hbb
                have HON := Lib.hid hon
                clear hon
                go_wp2_with fail
                refine hen.mono ?_
                rintro e w6 ⟨x6, rfl, hs6, hf6, ho6⟩
                clear hen r0 r1 r2 r3 r4 r5 r6 r7 r8 r9 r10 r11 r12 r13 r14
                obtain ⟨A6, N6, C6, rfl⟩ := hs6.shape
                have hwo := whole_any (Sl.rd hs6) (by have := HRO.out.2; omega) HP8.out Rn (Rn + nn)
                rw [HP13.out] at hwo
                have HF6 := Lib.hid (HF13.out.also (HFW.out.also hf6))
                clear hs6 hf6 ho6
                go_wp2_with fail
                refine hwo.mono ?_
                rintro e w7 ⟨rfl, hf7⟩
                have HF7 := Lib.hid (HF6.out.also hf7)
                clear hwo hf7
                go_wp2_with fail
                refine (vlives_any w7).mono ?_
                rintro e w12 ⟨rfl, hf12⟩
                have HF12 := Lib.hid (HFA.out.also (HF7.out.also hf12))
                clear hf12
                go_wp2
                go_ret
                exact ⟨rfl, HF12.out⟩
        · obtain ⟨rfl, hg0, hl0⟩ := HNO.out hz
          subst hg0
          subst hl0
          obtain rfl : Ng = 0 := by rw [HNG.out]; rfl
          have hme := ents_any HM3.out (by omega)
          go_wp2_with fail
          refine hme.mono ?_
          rintro e w6 ⟨x6, rfl, hs6, hf6, ho6⟩
          obtain ⟨A6, N6, C6, rfl⟩ := hs6.shape
          have hsa := same_any (Sl.rd hs6) (Sl.rd (Sl.fr HW3.out hf6 (fun _ _ h => h))) (by omega) (by omega)
          rw [decide_eq_true rfl] at hsa
          have HF6 := Lib.hid (HF13.out.also hf6)
          clear hme hs6 ho6 hf6
          go_wp2_with fail
          refine hsa.mono ?_
          rintro e w7 ⟨rfl, hf7⟩
          have HF7 := Lib.hid (HF6.out.also hf7)
          clear hsa hf7
          go_wp2_with fail
          refine (vlives_any w7).mono ?_
          rintro e w12 ⟨rfl, hf12⟩
          have HF12 := Lib.hid (HFA.out.also (HF7.out.also hf12))
          clear hf12
          go_wp2
          go_ret
          exact ⟨rfl, HF12.out⟩
end Go.Proofs.Ytopglbkcciigbaa
