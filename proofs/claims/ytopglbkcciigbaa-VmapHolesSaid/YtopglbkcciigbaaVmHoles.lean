/- VmapHoles returns true: the walk. No conditions. -/
import Derived.Test.YtopglbkcciigbaaVmQ
namespace Go.Proofs.Ytopglbkcciigbaa
open Go.RowKit
set_option linter.unusedSimpArgs false
set_option linter.unusedVariables false
attribute [local go_sem] Oper.semAt_some
def UintV (n : Int) : Prop := 0 ≤ n ∧ n ≤ 18446744073709551615
theorem uintV_wf {n : Int} (h : (Lit.int .u64 n).wf = true) : UintV n := by
  have hmin : IntKind.u64.min = 0 := by decide
  have hmax : IntKind.u64.max = 18446744073709551615 := by decide
  simp [Lit.wf] at h; rw [hmin, hmax] at h; exact h
theorem cov_merge {l : List Ent} (hl : rightB 0 l = true) {p : Int} : cov (mergeL l) p ↔ cov l p := by
  constructor
  · rintro ⟨x, hx, hp⟩
    obtain ⟨y, hy, hyp, _⟩ := (merge_sub hl).2 x hx p hp
    exact ⟨y, hy, hyp⟩
  · rintro ⟨x, hx, hp⟩
    obtain ⟨y, hy, hyp, _⟩ := (merge_sub hl).1 x hx p hp
    exact ⟨y, hy, hyp⟩
theorem cov_set {l : List Ent} {lo hi p : Int} {G : Ent → Prop} {f : Ent → Ent} (hf : Sets G f) : cov (setL l lo hi f) p ↔ cov l p := by
  have e : cov l p ↔ cov (clipL (clipL l lo) hi) p := by rw [cov_clip, cov_clip]
  rw [e]
  constructor
  · rintro ⟨y, hy, hyp⟩
    obtain ⟨x, hx, rfl⟩ := List.mem_map.1 hy
    refine ⟨x, hx, ?_⟩
    unfold has at hyp ⊢
    split at hyp
    · rw [hf.es, hf.ee] at hyp; exact hyp
    · exact hyp
  · rintro ⟨x, hx, hxp⟩
    refine ⟨_, List.mem_map.2 ⟨x, hx, rfl⟩, ?_⟩
    unfold has at hxp ⊢
    split
    · rw [hf.es, hf.ee]; exact hxp
    · exact hxp
structure Next (l l' : List Ent) (lo n : Int) : Prop where
  ok : VOK l'
  len : l'.length ≤ l.length + 3
  whole : wholeR l' lo (lo + n) = true
theorem set_no {l : List Ent} {lo n : Int} (hq : withinB lo n = true) (hw : wholeR l lo (lo + n) = false) (may : Ent → Bool) (f : Ent → Ent) : setV l lo n true may f = ⟨0, [], 5, l⟩ := by
  unfold setV
  rw [if_neg (by rw [hq]; simp), if_pos hw]
theorem set_yes {l : List Ent} {lo n : Int} (h : VOK l) (hq : withinB lo n = true) (hw : wholeR l lo (lo + n) = true) {may : Ent → Bool} {f : Ent → Ent} (hs : Sets (fun x => may x = true) f) (hm : ∀ x ∈ goneL l lo (lo + n), may x = true) :
    ∃ l', setV l lo n true may f = ⟨0, [], 0, l'⟩ ∧ Next l l' lo n := by
  have h1 := set_ok h lo n (ok := true) (may := may) (f := f) (fun _ => hs)
  have h2 : setV l lo n true may f = ⟨0, [], 0, mergeL (setL l lo (lo + n) f)⟩ := by
    unfold setV
    rw [if_neg (by rw [hq]; simp), if_neg (by rw [hw]; simp), if_neg (by rw [List.all_eq_true.2 hm]; simp)]
  rw [h2] at h1
  refine ⟨_, h2, h1.1, h1.2, ?_⟩
  have hr := right_set (lo := lo) (hi := lo + n) h.right hs hm
  rw [whole_cov (rightB_merge hr)]
  intro p h3 h4
  rw [cov_merge hr, cov_set hs]
  exact (whole_cov h.right).1 hw p h3 h4
theorem and_zero8 : ∀ m : Fin 8, bits .and .i64 0 (m.val : Int) = 0 := by decide +kernel
theorem may_zero {x : Ent} (h : goodB x = true) : mayP 0 x = true := by
  obtain ⟨-, ⟨-, -, h0, h7, -⟩, -⟩ := goodB_iff.1 h
  refine decide_eq_true ((andNot_zero (by decide) h0 h7).2 ⟨by decide, by decide, ?_⟩)
  have := and_zero8 ⟨x.mx.toNat, by omega⟩
  rwa [show ((⟨x.mx.toNat, by omega⟩ : Fin 8).val : Int) = x.mx by simp; omega] at this
theorem unmap_yes {l : List Ent} {lo n : Int} (h : VOK l) (hq : withinB lo n = true) : ∃ g l', unmapV l lo n = ⟨0, g, 0, l'⟩ ∧ VOK l' ∧ l'.length ≤ l.length + 3 ∧ ∃ l2, unmapV l' lo n = ⟨0, [], 0, l2⟩ := by
  have h1 := unmap_ok h lo n
  have h2 : unmapV l lo n = ⟨0, goneL l lo (lo + n), 0, mergeL (leftL l lo (lo + n))⟩ := by unfold unmapV; rw [if_neg (by rw [hq]; simp)]
  rw [h2] at h1
  refine ⟨_, _, h2, h1.1, h1.2, mergeL (leftL (mergeL (leftL l lo (lo + n))) lo (lo + n)), ?_⟩
  have h3 : goneL (mergeL (leftL l lo (lo + n))) lo (lo + n) = [] := by
    refine List.eq_nil_iff_forall_not_mem.2 fun x hx => ?_
    have hr := h1.1.right
    have hg := goodE_of (rightB_mem (right_gone lo (lo + n) hr) x hx).1
    obtain ⟨a, b⟩ := gone_in hx
    have hp : has x x.s := ⟨Int.le_refl _, hg.se⟩
    have h4 := (pv_mem (right_gone lo (lo + n) hr) hx hp).1
    have hin : lo ≤ x.s ∧ x.s < lo + n := ⟨a, by have := hg.se; omega⟩
    rw [pv_gone hr, if_pos hin, pv_merge (right_left lo (lo + n) h.right), pv_left h.right, if_pos hin] at h4
    cases h4
  unfold unmapV
  rw [if_neg (by rw [hq]; simp), h3]
theorem Inv.mout {W wr w' : World} {b : Nat} {v : Value} {l l' : List Ent} {t : Nat} (HI : Inv W wr b v l t) (ho : MOut b v l' wr w') (hok : VOK l') (hlen : l'.length ≤ l.length + 3) : ∃ v', MT w' b v' l' ∧ Inv W w' b v' l' (t + 1) := by
  obtain ⟨v', h1, h2, h3⟩ := ho
  have h4 := HI.lo
  have h5 := HI.fr.size
  exact ⟨v', h1, hok, by have := HI.len; omega, HI.lo, fun k hk => (h2 k hk).elim (HI.own k) (fun h => by omega), HI.fr.step h3 (fun k hk => .inr (by omega))⟩
set_option maxRecDepth 100000 in
set_option maxHeartbeats 8000000 in
theorem holes_walk (W : World) (A : Option Addr) (N C : Nat) (acts : List VAct) (lo n : Int) (hx : Rd W 15 (.slice A N C) (acts.flatMap actC)) (hN : N = acts.length) (hw : ∀ a ∈ acts, WfA a) (hn : UintV n) :
    Calls Try.prog 3 #[.slice A N C, .int .i64 lo, .int .u64 n] W fun e w' => e = .returned (.bool true) ∧ Fr (fun _ => False) W w' := by
  have HN := Lib.hid hN
  have HW := Lib.hid hw
  have HX := Lib.hid (show ∀ w', Fr (fun _ => False) W w' → Rd w' 15 (.slice A N C) (acts.flatMap actC) from fun w' hf => hx.of hf (fun _ h => h.elim))
  clear hN hw hx
  obtain ⟨hn0, hn1⟩ := hn
  by_cases hbig : 40 < N
  · go_enter Try.func3, Try.ntmps3
    go_wp2_with fail
    refine (vlives_any _).mono ?_
    rintro e w9 ⟨rfl, hf9⟩
    have HF9 := Lib.hid hf9
    clear hf9
    go_wp2
    go_ret
    exact ⟨rfl, HF9.out⟩
  by_cases hlo : lo < 0
  · go_enter Try.func3, Try.ntmps3
    go_wp2_with fail
    refine (vlives_any _).mono ?_
    rintro e w9 ⟨rfl, hf9⟩
    have HF9 := Lib.hid hf9
    clear hf9
    go_wp2
    go_ret
    exact ⟨rfl, HF9.out⟩
  by_cases hlo2 : 67108814 < lo
  · go_enter Try.func3, Try.ntmps3
    go_wp2_with fail
    refine (vlives_any _).mono ?_
    rintro e w9 ⟨rfl, hf9⟩
    have HF9 := Lib.hid hf9
    clear hf9
    go_wp2
    go_ret
    exact ⟨rfl, HF9.out⟩
  · have hN6 : N ≤ 40 := by omega
    clear hbig
    go_enter Try.func3, Try.ntmps3
    go_wp2_with fail
    refine (vnew_any W).mono ?_
    rintro e w1 ⟨rfl, hm1, hf1⟩
    obtain ⟨b0, hb0⟩ : ∃ b0, W.heap.size = b0 := ⟨_, rfl⟩
    rw [hb0] at hm1
    simp only [hb0]
    have HI0 := Lib.hid (show Inv W w1 b0 (.slice none 0 0) [] 0 from ⟨VOK.nil, by simp, by omega, (fun k hk => by cases hk), hf1⟩)
    clear hb0 hf1
    go_wp2_with fail
    go_loopw [7, 35] (fun sm si wr => ∃ (t b : Nat) (v : Value) (l : List Ent), t ≤ N ∧ si = .int .i64 t ∧ sm = .pointer (some ⟨b, 0, none⟩) ∧ MT wr b v l ∧ Hid (Inv W wr b v l t)) (fun _ si _ => N - (intOf si).toNat)
    case atStart => exact ⟨0, b0, .slice none 0 0, [], Nat.zero_le _, rfl, rfl, hm1, HI0⟩
    case round =>
      clear hm1
      obtain ⟨t, b, v, l, ht, rfl, rfl, hm, HI⟩ := hrel
      by_cases hlt : t < N
      · obtain ⟨a, hat⟩ : ∃ a, acts[t]? = some a := ⟨_, List.getElem?_eq_getElem (by have := HN.out; omega)⟩
        obtain ⟨g, off, n', cap', heq, hgl, hcs⟩ := Rd.at actC_len (by decide) (HX.out wr HI.out.fr) hat
        cases heq
        have d0 : wr.cell? ⟨g, off + t * 15, none⟩ = some (.int .i64 a.kd) := hcs 0 _ rfl
        have d1 : wr.cell? ⟨g, off + t * 15 + 1, none⟩ = some (.int .i64 a.lo) := hcs 1 _ rfl
        have d2 : wr.cell? ⟨g, off + t * 15 + 2, none⟩ = some (.int .i64 a.pg) := hcs 2 _ rfl
        have d3 : wr.cell? ⟨g, off + t * 15 + 3, none⟩ = some (.int .i64 a.hw) := hcs 3 _ rfl
        have d4 : wr.cell? ⟨g, off + t * 15 + 4, none⟩ = some (.int .i64 a.x.s) := hcs 4 _ rfl
        have d5 : wr.cell? ⟨g, off + t * 15 + 5, none⟩ = some (.int .i64 a.x.e) := hcs 5 _ rfl
        have d6 : wr.cell? ⟨g, off + t * 15 + 6, none⟩ = some (.int .i64 a.x.f) := hcs 6 _ rfl
        have d7 : wr.cell? ⟨g, off + t * 15 + 7, none⟩ = some (.int .i64 a.x.o) := hcs 7 _ rfl
        have d8 : wr.cell? ⟨g, off + t * 15 + 8, none⟩ = some (.bool a.x.sh) := hcs 8 _ rfl
        have d9 : wr.cell? ⟨g, off + t * 15 + 9, none⟩ = some (.int .i64 a.x.pr) := hcs 9 _ rfl
        have d10 : wr.cell? ⟨g, off + t * 15 + 10, none⟩ = some (.int .i64 a.x.mx) := hcs 10 _ rfl
        have d11 : wr.cell? ⟨g, off + t * 15 + 11, none⟩ = some (.int .i64 a.x.inh) := hcs 11 _ rfl
        have d12 : wr.cell? ⟨g, off + t * 15 + 12, none⟩ = some (.int .i64 a.x.adv) := hcs 12 _ rfl
        have d13 : wr.cell? ⟨g, off + t * 15 + 13, none⟩ = some (.bool a.x.wi) := hcs 13 _ rfl
        have d14 : wr.cell? ⟨g, off + t * 15 + 14, none⟩ = some (.bool a.on) := hcs 14 _ rfl
        have HWA := Lib.hid (HW.out a (List.mem_of_getElem? hat))
        have hfa : Fr (fun _ => False) wr (wr.alloc (.cells #[.int .i64 a.kd, .int .i64 a.lo, .int .i64 a.pg, .int .i64 a.hw, .int .i64 a.x.s, .int .i64 a.x.e, .int .i64 a.x.f, .int .i64 a.x.o, .bool a.x.sh, .int .i64 a.x.pr, .int .i64 a.x.mx, .int .i64 a.x.inh, .int .i64 a.x.adv, .bool a.x.wi, .bool a.on] 30)) := (Fr.refl _ _).alloc _
        have hact := act_any (hm.keep hfa) (by have := HI.out.len; omega) HI.out.ok.right a HWA.out.x
        simp only [actC, ent, List.cons_append, List.nil_append] at hact
        have HFA := Lib.hid hfa
        clear hat hcs hgl hfa hm
        go_wp2_with fail
        refine hact.mono ?_
        rintro e w5 ⟨b', v', gn, rfl, hsg, hog, hm5, hkd, hov, hf5⟩
        have HNEW := Lib.hid (HI.out.act HFA.out HWA.out.x hkd hov hf5)
        have HM5 := Lib.hid hm5
        clear hact d0 d1 d2 d3 d4 d5 d6 d7 d8 d9 d10 d11 d12 d13 d14 hm5 hkd hov hf5 hsg hog
        go_wp2
        go_roundw
        case rel => exact ⟨t + 1, b', v', _, by omega, by go_num, rfl, HM5.out, HNEW⟩
        case measure => simp [intOf]; omega
      · obtain rfl : t = N := by omega
        have hl9 : l.length ≤ 120 := by have := HI.out.len; omega
        have hen := ents_any hm (by omega)
        have HM := Lib.hid hm
        obtain ⟨r, hr, hr0, hr1⟩ : ∃ r, n % 40 = r ∧ 0 ≤ r ∧ r < 40 := ⟨n % 40, rfl, by omega, by omega⟩
        clear hm
        go_wp2_with fail
        refine hen.mono ?_
        rintro e w2 ⟨was, rfl, hsw, hf2, how⟩
        clear hen
        try simp only [hr]
        clear hr
        have HQ := Lib.hid (show withinB lo (1 + r) = true from withinB_iff.2 ⟨by omega, by omega, by omega, by omega⟩)
        obtain ⟨Aw, Nw, Cw, rfl⟩ := hsw.shape
        have hwo := whole_any (Sl.rd hsw) (by omega) HI.out.ok.right lo (lo + (1 + r))
        have HM2 := Lib.hid (HM.out.keep hf2)
        have HI2 := Lib.hid (HI.out.keep hf2)
        have HSW := Lib.hid hsw
        have HOW := Lib.hid how
        have HF2 := Lib.hid hf2
        clear hsw how hf2
        cases hwh : wholeR l lo (lo + (1 + r)) with
        | false =>
          rw [hwh] at hwo
          have HWH := Lib.hid hwh
          clear hwh
          go_wp2_with fail
          refine hwo.mono ?_
          rintro e w3 ⟨rfl, hf3⟩
          clear hwo
          have HM3 := Lib.hid (HM2.out.keep hf3)
          have HI3 := Lib.hid (HI2.out.keep hf3)
          have HSW3 := Lib.hid (Sl.fr HSW.out hf3 (fun _ _ h => h))
          clear hf3
          have hc := vInherit HM3.out (by have := HI3.out.len; omega) HI3.out.ok.right lo (1 + r) 0
          rw [show okI 0 = true from rfl, set_no HQ.out HWH.out] at hc
          go_wp2_with fail
          refine hc.mono ?_
          rintro e w4 ⟨rfl, ho⟩
          clear hc
          obtain ⟨v4, hm4, hi4⟩ := HI3.out.mout ho HI3.out.ok (by omega)
          have HM4 := Lib.hid hm4
          have HI4 := Lib.hid hi4
          have HX4 := Lib.hid (show Fr (fun k => k = b) w3 w4 from ho.choose_spec.2.2)
          clear hm4 hi4 ho

          have hc := vAdvise HM4.out (by have := HI4.out.len; omega) HI4.out.ok.right lo (1 + r) 0
          rw [show okA 0 = true from rfl, set_no HQ.out HWH.out] at hc
          go_wp2_with fail
          refine hc.mono ?_
          rintro e w5 ⟨rfl, ho⟩
          clear hc
          obtain ⟨v5, hm5, hi5⟩ := HI4.out.mout ho HI4.out.ok (by omega)
          have HM5 := Lib.hid hm5
          have HI5 := Lib.hid hi5
          have HX5 := Lib.hid (show Fr (fun k => k = b) w4 w5 from ho.choose_spec.2.2)
          clear hm5 hi5 ho

          have hc := vWire HM5.out (by have := HI5.out.len; omega) HI5.out.ok.right lo (1 + r) false
          rw [set_no HQ.out HWH.out] at hc
          go_wp2_with fail
          refine hc.mono ?_
          rintro e w6 ⟨rfl, ho⟩
          clear hc
          obtain ⟨v6, hm6, hi6⟩ := HI5.out.mout ho HI5.out.ok (by omega)
          have HM6 := Lib.hid hm6
          have HI6 := Lib.hid hi6
          have HX6 := Lib.hid (show Fr (fun k => k = b) w5 w6 from ho.choose_spec.2.2)
          clear hm6 hi6 ho

          have hc := vProtect HM6.out (by have := HI6.out.len; omega) HI6.out.ok.right lo (1 + r) 0
          rw [show okP 0 = true from rfl, set_no HQ.out HWH.out] at hc
          go_wp2_with fail
          refine hc.mono ?_
          rintro e w7 ⟨rfl, ho⟩
          clear hc
          obtain ⟨v7, hm7, hi7⟩ := HI6.out.mout ho HI6.out.ok (by omega)
          have HM7 := Lib.hid hm7
          have HI7 := Lib.hid hi7
          have HX7 := Lib.hid (show Fr (fun k => k = b) w6 w7 from ho.choose_spec.2.2)
          clear hm7 hi7 ho
          have hen := ents_any HM7.out (by have := HI7.out.len; omega)
          go_wp2_with fail
          refine hen.mono ?_
          rintro e w8 ⟨x8, rfl, hs8, hf8, -⟩
          clear hen
          obtain ⟨A8, N8, C8, rfl⟩ := hs8.shape
          have hbw : ∀ k, (Value.slice Aw Nw Cw).ownBlock = some k → k ≠ b := fun k hk => by have := HOW.out k hk; have := HM.out.lt; omega
          have hsa := same_any (Sl.rd hs8) (Sl.rd (Sl.fr (Sl.fr (Sl.fr (Sl.fr (Sl.fr HSW3.out HX4.out hbw) HX5.out hbw) HX6.out hbw) HX7.out hbw) hf8 (fun _ _ h => h))) (by omega) (by omega)
          rw [decide_eq_true rfl] at hsa
          have HM8 := Lib.hid (HM7.out.keep hf8)
          have HI8' := Lib.hid (HI7.out.keep hf8)
          clear hs8 hf8 hbw
          go_wp2_with fail
          refine hsa.mono ?_
          rintro e w9 ⟨rfl, hf9⟩
          clear hsa
          have HM9 := Lib.hid (HM8.out.keep hf9)
          have HI9 := Lib.hid (HI8'.out.keep hf9)
          clear hf9
          obtain ⟨g1, l6, hu1, hok6, hlen6, l7, hu2⟩ := unmap_yes HI9.out.ok HQ.out
          have hc := vunmap_any HM9.out (by have := HI9.out.len; omega) HI9.out.ok.right lo (1 + r)
          rw [hu1] at hc
          have HU2 := Lib.hid hu2
          have HO6 := Lib.hid hok6
          have HL6 := Lib.hid hlen6
          clear hu1 hu2 hok6 hlen6
          go_wp2_with fail
          refine hc.mono ?_
          rintro e w8 ⟨gg, rfl, -, -, ho⟩
          clear hc
          obtain ⟨v8, hm8, hi8⟩ := HI9.out.mout ho HO6.out HL6.out
          have hc := vunmap_any hm8 (by have := hi8.len; omega) HO6.out.right lo (1 + r)
          rw [HU2.out] at hc
          have HI8 := Lib.hid hi8
          clear hm8 hi8 ho
          go_wp2_with fail
          refine hc.mono ?_
          rintro e w9 ⟨g9, rfl, hs9, -, ho⟩
          clear hc
          obtain ⟨A9, N9, C9, rfl⟩ := hs9.shape
          obtain rfl : N9 = 0 := SE.elen hs9
          have HF9 := Lib.hid (show Fr (fun _ => False) W w9 from HI8.out.fr.step ho.choose_spec.2.2 (fun k hk => .inr (by have := HI8.out.lo; omega)))
          clear hs9 ho
          go_wp2_with fail
          refine (vlives_any w9).mono ?_
          rintro e w12 ⟨rfl, hf12⟩
          have HF12 := Lib.hid (HF9.out.also hf12)
          clear hf12
          go_wp2
          go_ret
          exact ⟨rfl, HF12.out⟩
        | true =>
          rw [hwh] at hwo
          have HWH := Lib.hid hwh
          clear hwh
          go_wp2_with fail
          refine hwo.mono ?_
          rintro e w3 ⟨rfl, hf3⟩
          clear hwo
          have HM3 := Lib.hid (HM2.out.keep hf3)
          have HI3 := Lib.hid (HI2.out.keep hf3)
          clear hf3
          obtain ⟨l4, he4, hn4⟩ := set_yes (may := anyE) (f := inE 0) HI3.out.ok HQ.out HWH.out (sets_in rfl) (fun _ _ => rfl)
          have hc := vInherit HM3.out (by have := HI3.out.len; omega) HI3.out.ok.right lo (1 + r) 0
          rw [show okI 0 = true from rfl, he4] at hc
          have HN4 := Lib.hid hn4
          clear he4 hn4
          go_wp2_with fail
          refine hc.mono ?_
          rintro e w4 ⟨rfl, ho⟩
          clear hc
          obtain ⟨v4, hm4, hi4⟩ := HI3.out.mout ho HN4.out.ok HN4.out.len
          have HM4 := Lib.hid hm4
          have HI4 := Lib.hid hi4
          clear hm4 hi4 ho

          obtain ⟨l5, he5, hn5⟩ := set_yes (may := anyE) (f := adE 0) HI4.out.ok HQ.out HN4.out.whole (sets_ad rfl) (fun _ _ => rfl)
          have hc := vAdvise HM4.out (by have := HI4.out.len; omega) HI4.out.ok.right lo (1 + r) 0
          rw [show okA 0 = true from rfl, he5] at hc
          have HN5 := Lib.hid hn5
          clear he5 hn5
          go_wp2_with fail
          refine hc.mono ?_
          rintro e w5 ⟨rfl, ho⟩
          clear hc
          obtain ⟨v5, hm5, hi5⟩ := HI4.out.mout ho HN5.out.ok HN5.out.len
          have HM5 := Lib.hid hm5
          have HI5 := Lib.hid hi5
          clear hm5 hi5 ho

          obtain ⟨l6, he6, hn6⟩ := set_yes (may := anyE) (f := wiE false) HI5.out.ok HQ.out HN5.out.whole (sets_wi false) (fun _ _ => rfl)
          have hc := vWire HM5.out (by have := HI5.out.len; omega) HI5.out.ok.right lo (1 + r) false
          rw [he6] at hc
          have HN6 := Lib.hid hn6
          clear he6 hn6
          go_wp2_with fail
          refine hc.mono ?_
          rintro e w6 ⟨rfl, ho⟩
          clear hc
          obtain ⟨v6, hm6, hi6⟩ := HI5.out.mout ho HN6.out.ok HN6.out.len
          have HM6 := Lib.hid hm6
          have HI6 := Lib.hid hi6
          clear hm6 hi6 ho

          obtain ⟨l7, he7, hn7⟩ := set_yes (may := (mayP 0)) (f := prE 0) HI6.out.ok HQ.out HN6.out.whole (sets_pr rfl) (fun x hx => may_zero (rightB_mem (right_gone _ _ HI6.out.ok.right) x hx).1)
          have hc := vProtect HM6.out (by have := HI6.out.len; omega) HI6.out.ok.right lo (1 + r) 0
          rw [show okP 0 = true from rfl, he7] at hc
          have HN7 := Lib.hid hn7
          clear he7 hn7
          go_wp2_with fail
          refine hc.mono ?_
          rintro e w7 ⟨rfl, ho⟩
          clear hc
          obtain ⟨v7, hm7, hi7⟩ := HI6.out.mout ho HN7.out.ok HN7.out.len
          have HM7 := Lib.hid hm7
          have HI7 := Lib.hid hi7
          clear hm7 hi7 ho
          obtain ⟨g1, l6, hu1, hok6, hlen6, l7, hu2⟩ := unmap_yes HI7.out.ok HQ.out
          have hc := vunmap_any HM7.out (by have := HI7.out.len; omega) HI7.out.ok.right lo (1 + r)
          rw [hu1] at hc
          have HU2 := Lib.hid hu2
          have HO6 := Lib.hid hok6
          have HL6 := Lib.hid hlen6
          clear hu1 hu2 hok6 hlen6
          go_wp2_with fail
          refine hc.mono ?_
          rintro e w8 ⟨gg, rfl, -, -, ho⟩
          clear hc
          obtain ⟨v8, hm8, hi8⟩ := HI7.out.mout ho HO6.out HL6.out
          have hc := vunmap_any hm8 (by have := hi8.len; omega) HO6.out.right lo (1 + r)
          rw [HU2.out] at hc
          have HI8 := Lib.hid hi8
          clear hm8 hi8 ho
          go_wp2_with fail
          refine hc.mono ?_
          rintro e w9 ⟨g9, rfl, hs9, -, ho⟩
          clear hc
          obtain ⟨A9, N9, C9, rfl⟩ := hs9.shape
          obtain rfl : N9 = 0 := SE.elen hs9
          have HF9 := Lib.hid (show Fr (fun _ => False) W w9 from HI8.out.fr.step ho.choose_spec.2.2 (fun k hk => .inr (by have := HI8.out.lo; omega)))
          clear hs9 ho
          go_wp2_with fail
          refine (vlives_any w9).mono ?_
          rintro e w12 ⟨rfl, hf12⟩
          have HF12 := Lib.hid (HF9.out.also hf12)
          clear hf12
          go_wp2
          go_ret
          exact ⟨rfl, HF12.out⟩
end Go.Proofs.Ytopglbkcciigbaa
