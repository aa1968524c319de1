/- VmapPages returns true: the walk. No conditions. -/
import Derived.Test.YtopglbkcciigbaaVmQ
namespace Go.Proofs.Ytopglbkcciigbaa
open Go.RowKit
set_option linter.unusedSimpArgs false
set_option linter.unusedVariables false
attribute [local go_sem] Oper.semAt_some
def prA (q : Int) (a : Att) : Att := ⟨a.f, a.sh, q, a.mx, a.inh, a.adv, a.wi, a.o⟩
def inA (q : Int) (a : Att) : Att := ⟨a.f, a.sh, a.pr, a.mx, q, a.adv, a.wi, a.o⟩
def adA (q : Int) (a : Att) : Att := ⟨a.f, a.sh, a.pr, a.mx, a.inh, q, a.wi, a.o⟩
def wiA (q : Bool) (a : Att) : Att := ⟨a.f, a.sh, a.pr, a.mx, a.inh, a.adv, q, a.o⟩
/-- What a call that sets leaves of a page. -/
theorem set_page {l : List Ent} (h : VOK l) {lo n p : Int} {ok : Bool} {may : Ent → Bool} {f : Ent → Ent} {Fa : Att → Att} (hf : ok = true → Sets (fun x => may x = true) f) (hF : ∀ x, attr (f x) p = Fa (attr x p)) :
    ((setV l lo n ok may f).err = 0 → withinB lo n = true) ∧ (¬ ((setV l lo n ok may f).err = 0 ∧ lo ≤ p ∧ p < lo + n) → pv (setV l lo n ok may f).l p = pv l p) ∧
      ((setV l lo n ok may f).err = 0 → lo ≤ p → p < lo + n → ∃ u, pv l p = some u ∧ pv (setV l lo n ok may f).l p = some (Fa u)) := by
  unfold setV
  split
  · exact ⟨(fun hc => by cases hc), fun _ => rfl, (fun hc => by cases hc)⟩
  · rename_i h1
    have hq : withinB lo n = true := by cases hb : withinB lo n; exact absurd (.inl hb) h1; rfl
    have hok : ok = true := by cases hb : ok; exact absurd (.inr hb) h1; rfl
    split
    · exact ⟨(fun hc => by cases hc), fun _ => rfl, (fun hc => by cases hc)⟩
    · rename_i h2
      have hw : wholeR l lo (lo + n) = true := by cases hb : wholeR l lo (lo + n); exact absurd hb h2; rfl
      split
      · exact ⟨(fun hc => by cases hc), fun _ => rfl, (fun hc => by cases hc)⟩
      · rename_i h3
        have hm : ∀ x ∈ goneL l lo (lo + n), may x = true := List.all_eq_true.1 (by cases hb : (goneL l lo (lo + n)).all may; exact absurd hb h3; rfl)
        have hs := hf hok
        have hr := right_set (lo := lo) (hi := lo + n) h.right hs hm
        have hp := pv_set (p := p) h.right hs hm hF
        refine ⟨fun _ => hq, fun hn => ?_, fun _ p0 p1 => ?_⟩
        · show pv (mergeL (setL l lo (lo + n) f)) p = _
          rw [pv_merge hr, hp, if_neg (fun hc => hn ⟨rfl, hc.1, hc.2⟩)]
        · have h4 := (fok_cov h.right).2 ((whole_cov h.right).1 hw p p0 p1)
          refine ⟨_, pv_at h4, ?_⟩
          show pv (mergeL (setL l lo (lo + n) f)) p = _
          rw [pv_merge hr, hp, if_pos ⟨p0, p1⟩, pv_at h4]; rfl
structure PageLaw (l : List Ent) (a : VAct) (p : Int) (R : VR) : Prop where
  within : R.err = 0 → withinB a.lo a.pg = true
  out : ¬ (R.err = 0 ∧ a.lo ≤ p ∧ p < a.lo + a.pg) → pv R.l p = pv l p
  cut : R.err = 0 → a.lo ≤ p → p < a.lo + a.pg → a.kd = 1 → fok R.l p = false ∧ fok R.gone p = fok l p
  set : R.err = 0 → a.lo ≤ p → p < a.lo + a.pg → a.kd ≠ 1 → ∃ u, pv l p = some u ∧ pv R.l p = some (if a.kd = 2 then prA a.hw u else if a.kd = 3 then inA a.hw u else if a.kd = 4 then adA a.hw u else wiA a.on u)
  gright : rightB 0 R.gone = true
  glen : R.gone.length ≤ l.length + 2
theorem page_law {l : List Ent} (h : VOK l) (a : VAct) (hk1 : 1 ≤ a.kd) (hk5 : a.kd ≤ 5) (p : Int) : PageLaw l a p (actV l a) := by
  have hset : ∀ {ok : Bool} {may : Ent → Bool} {f : Ent → Ent} {Fa : Att → Att}, (ok = true → Sets (fun x => may x = true) f) → (∀ x, attr (f x) p = Fa (attr x p)) → a.kd ≠ 1 → Fa = (fun u => if a.kd = 2 then prA a.hw u else if a.kd = 3 then inA a.hw u else if a.kd = 4 then adA a.hw u else wiA a.on u) → PageLaw l a p (setV l a.lo a.pg ok may f) := by
    intro ok may f Fa h1 h2 h3 h4
    obtain ⟨q1, q2, q3⟩ := set_page (lo := a.lo) (n := a.pg) h h1 h2
    have hg := (setV_n l a.lo a.pg ok may f).2
    exact ⟨q1, q2, fun _ _ _ hc => absurd hc h3, fun e p0 p1 _ => by rw [h4] at q3; exact q3 e p0 p1, by rw [hg]; rfl, by rw [hg]; exact Nat.zero_le _⟩
  unfold actV
  rw [if_neg (by omega)]
  split
  · rename_i k1
    unfold unmapV
    split
    · exact ⟨(fun hc => by cases hc), fun _ => rfl, (fun hc => by cases hc), (fun hc => by cases hc), rfl, Nat.zero_le _⟩
    · rename_i hq
      have hq' : withinB a.lo a.pg = true := by cases hb : withinB a.lo a.pg; exact absurd hb hq; rfl
      have hr := right_left a.lo (a.lo + a.pg) h.right
      refine ⟨fun _ => hq', fun hn => ?_, fun _ p0 p1 _ => ⟨?_, ?_⟩, fun _ _ _ hc => absurd k1 hc, right_gone _ _ h.right, gone_len _ _ h.right⟩
      · show pv (mergeL (leftL l a.lo (a.lo + a.pg))) p = _
        rw [pv_merge hr, pv_left h.right, if_neg (fun hc => hn ⟨rfl, hc.1, hc.2⟩)]
      · show fok (mergeL (leftL l a.lo (a.lo + a.pg))) p = false
        rw [pv_fok, pv_merge hr, pv_left h.right, if_pos ⟨p0, p1⟩]; rfl
      · show fok (goneL l a.lo (a.lo + a.pg)) p = _
        rw [pv_fok, pv_gone h.right, if_pos ⟨p0, p1⟩, ← pv_fok]
  · rename_i k1
    split
    · rename_i k2
      exact hset (fun e => sets_pr e) (Fa := prA a.hw) (fun _ => rfl) k1 (by funext u; rw [if_pos k2])
    · rename_i k2
      split
      · rename_i k3
        exact hset (fun e => sets_in e) (Fa := inA a.hw) (fun _ => rfl) k1 (by funext u; rw [if_neg k2, if_pos k3])
      · rename_i k3
        split
        · rename_i k4
          exact hset (fun e => sets_ad e) (Fa := adA a.hw) (fun _ => rfl) k1 (by funext u; rw [if_neg k2, if_neg k3, if_pos k4])
        · rename_i k4
          rw [if_pos (by omega)]
          exact hset (fun _ => sets_wi _) (Fa := wiA a.on) (fun _ => rfl) k1 (by funext u; rw [if_neg k2, if_neg k3, if_neg k4])
/-- Two pages with one view. -/
theorem same_view {l m : List Ent} {p : Int} {Fa : Att → Att} (h1 : fok l p = true) (h : pv m p = some (Fa (attr (atL l p) p))) : fok m p = true ∧ attr (atL m p) p = Fa (attr (atL l p) p) := by
  have h2 : fok m p = true := by rw [pv_fok, h]; rfl
  rw [pv_at h2] at h
  exact ⟨h2, Option.some.inj h⟩
theorem wp_same {c : Code} {P : Program} {Q : Exit → Act → World → Prop} {a A : Act} {w : World} {R : World → Prop} (h : c.wp P (fun e a' w' => e = .normal ∧ a' = A ∧ R w') a w) (hq : ∀ w', R w' → Q .normal A w') : c.wp P Q a w :=
  Code.wp_mono (fun e a' w' ⟨h1, h2, h3⟩ => by subst h1; subst h2; exact hq w' h3) h
theorem eqb_refl (x : Ent) : x.eqb x = true := Ent.eqb_iff.2 rfl
set_option maxRecDepth 100000 in
set_option maxHeartbeats 16000000 in
theorem pages_walk (W : World) (A : Option Addr) (N C : Nat) (acts : List VAct) (a : VAct) (p : Int) (hx0 : Rd W 15 (.slice A N C) (acts.flatMap actC)) (hN : N = acts.length) (hw : ∀ a ∈ acts, WfA a) (ha : WfA a) (hp : (Lit.int .i64 p).wf = true) :
    Calls Try.prog 5 #[.slice A N C, .agg #[.int .i64 a.kd, .int .i64 a.lo, .int .i64 a.pg, .int .i64 a.hw, .int .i64 a.x.s, .int .i64 a.x.e, .int .i64 a.x.f, .int .i64 a.x.o, .bool a.x.sh, .int .i64 a.x.pr, .int .i64 a.x.mx, .int .i64 a.x.inh, .int .i64 a.x.adv, .bool a.x.wi, .bool a.on], .int .i64 p] W fun e w' => e = .returned (.bool true) ∧ Fr (fun _ => False) W w' := by
  obtain ⟨W1, hW1⟩ : ∃ W1, W.alloc (.cells #[.int .i64 a.kd, .int .i64 a.lo, .int .i64 a.pg, .int .i64 a.hw, .int .i64 a.x.s, .int .i64 a.x.e, .int .i64 a.x.f, .int .i64 a.x.o, .bool a.x.sh, .int .i64 a.x.pr, .int .i64 a.x.mx, .int .i64 a.x.inh, .int .i64 a.x.adv, .bool a.x.wi, .bool a.on] 30) = W1 := ⟨_, rfl⟩
  obtain ⟨b3, hb3⟩ : ∃ b3, W.heap.size = b3 := ⟨_, rfl⟩
  have hfa : Fr (fun _ => False) W W1 := by rw [← hW1]; exact (Fr.refl _ _).alloc _
  have hob : ob W1 b3 = some (.cells #[.int .i64 a.kd, .int .i64 a.lo, .int .i64 a.pg, .int .i64 a.hw, .int .i64 a.x.s, .int .i64 a.x.e, .int .i64 a.x.f, .int .i64 a.x.o, .bool a.x.sh, .int .i64 a.x.pr, .int .i64 a.x.mx, .int .i64 a.x.inh, .int .i64 a.x.adv, .bool a.x.wi, .bool a.on] 30 (0, 0)) := by rw [← hW1, ← hb3]; exact ob_new _ _
  have hx := hx0.of hfa (fun _ h => h.elim)
  have c0 : W1.cell? ⟨b3, 0, none⟩ = some (.int .i64 a.kd) := cell_of_ob hob 0
  obtain ⟨hp0, hp1⟩ := wf_i64 hp
  have HFA := Lib.hid hfa
  have HOB := Lib.hid hob
  have HWA0 := Lib.hid ha
  clear hx0 hfa hob ha hp
  have HN := Lib.hid hN
  have HW := Lib.hid hw
  have HX := Lib.hid (show ∀ w', Fr (fun _ => False) W1 w' → Rd w' 15 (.slice A N C) (acts.flatMap actC) from fun w' hf => hx.of hf (fun _ h => h.elim))
  clear hN hw hx
  by_cases hbig : 60 < N
  · go_enter Try.func5, Try.ntmps5
    go_wp2_with fail
    refine (vlives_any _).mono ?_
    rintro e w9 ⟨rfl, hf9⟩
    have HF9 := Lib.hid (HFA.out.also hf9)
    clear hf9
    go_wp2
    go_ret
    exact ⟨rfl, HF9.out⟩
  by_cases hk1 : a.kd < 1
  · go_enter Try.func5, Try.ntmps5
    go_wp2_with fail
    refine (vlives_any _).mono ?_
    rintro e w9 ⟨rfl, hf9⟩
    have HF9 := Lib.hid (HFA.out.also hf9)
    clear hf9
    go_wp2
    go_ret
    exact ⟨rfl, HF9.out⟩
  by_cases hk5 : 5 < a.kd
  · go_enter Try.func5, Try.ntmps5
    go_wp2_with fail
    refine (vlives_any _).mono ?_
    rintro e w9 ⟨rfl, hf9⟩
    have HF9 := Lib.hid (HFA.out.also hf9)
    clear hf9
    go_wp2
    go_ret
    exact ⟨rfl, HF9.out⟩
  · have hN6 : N ≤ 60 := by omega
    have HK1 := Lib.hid (show 1 ≤ a.kd by omega)
    have HK5 := Lib.hid (show a.kd ≤ 5 by omega)
    clear hbig
    go_enter Try.func5, Try.ntmps5
    go_wp2_with fail
    try rw [hW1]
    try rw [hb3]
    clear hW1 hb3 c0
    refine (vnew_any W1).mono ?_
    rintro e w1 ⟨rfl, hm1, hf1⟩
    obtain ⟨b0, hb0⟩ : ∃ b0, W1.heap.size = b0 := ⟨_, rfl⟩
    rw [hb0] at hm1
    simp only [hb0]
    have HI0 := Lib.hid (show Inv W1 w1 b0 (.slice none 0 0) [] 0 from ⟨VOK.nil, by simp, by omega, (fun k hk => by cases hk), hf1⟩)
    clear hb0 hf1
    go_wp2_with fail
    go_loopw [7, 38] (fun sm si wr => ∃ (t b : Nat) (v : Value) (l : List Ent), t ≤ N ∧ si = .int .i64 t ∧ sm = .pointer (some ⟨b, 0, none⟩) ∧ MT wr b v l ∧ Hid (Inv W1 wr b v l t)) (fun _ si _ => N - (intOf si).toNat)
    case atStart => exact ⟨0, b0, .slice none 0 0, [], Nat.zero_le _, rfl, rfl, hm1, HI0⟩
    case round =>
      clear hm1
      obtain ⟨t, b, v, l, ht, rfl, rfl, hm, HI⟩ := hrel
      by_cases hlt : t < N
      · obtain ⟨z, hat⟩ : ∃ z, acts[t]? = some z := ⟨_, List.getElem?_eq_getElem (by have := HN.out; omega)⟩
        obtain ⟨g, off, n', cap', heq, hgl, hcs⟩ := Rd.at actC_len (by decide) (HX.out wr HI.out.fr) hat
        cases heq
        have d0 : wr.cell? ⟨g, off + t * 15, none⟩ = some (.int .i64 z.kd) := hcs 0 _ rfl
        have d1 : wr.cell? ⟨g, off + t * 15 + 1, none⟩ = some (.int .i64 z.lo) := hcs 1 _ rfl
        have d2 : wr.cell? ⟨g, off + t * 15 + 2, none⟩ = some (.int .i64 z.pg) := hcs 2 _ rfl
        have d3 : wr.cell? ⟨g, off + t * 15 + 3, none⟩ = some (.int .i64 z.hw) := hcs 3 _ rfl
        have d4 : wr.cell? ⟨g, off + t * 15 + 4, none⟩ = some (.int .i64 z.x.s) := hcs 4 _ rfl
        have d5 : wr.cell? ⟨g, off + t * 15 + 5, none⟩ = some (.int .i64 z.x.e) := hcs 5 _ rfl
        have d6 : wr.cell? ⟨g, off + t * 15 + 6, none⟩ = some (.int .i64 z.x.f) := hcs 6 _ rfl
        have d7 : wr.cell? ⟨g, off + t * 15 + 7, none⟩ = some (.int .i64 z.x.o) := hcs 7 _ rfl
        have d8 : wr.cell? ⟨g, off + t * 15 + 8, none⟩ = some (.bool z.x.sh) := hcs 8 _ rfl
        have d9 : wr.cell? ⟨g, off + t * 15 + 9, none⟩ = some (.int .i64 z.x.pr) := hcs 9 _ rfl
        have d10 : wr.cell? ⟨g, off + t * 15 + 10, none⟩ = some (.int .i64 z.x.mx) := hcs 10 _ rfl
        have d11 : wr.cell? ⟨g, off + t * 15 + 11, none⟩ = some (.int .i64 z.x.inh) := hcs 11 _ rfl
        have d12 : wr.cell? ⟨g, off + t * 15 + 12, none⟩ = some (.int .i64 z.x.adv) := hcs 12 _ rfl
        have d13 : wr.cell? ⟨g, off + t * 15 + 13, none⟩ = some (.bool z.x.wi) := hcs 13 _ rfl
        have d14 : wr.cell? ⟨g, off + t * 15 + 14, none⟩ = some (.bool z.on) := hcs 14 _ rfl
        have HWA := Lib.hid (HW.out z (List.mem_of_getElem? hat))
        have hfa : Fr (fun _ => False) wr (wr.alloc (.cells #[.int .i64 z.kd, .int .i64 z.lo, .int .i64 z.pg, .int .i64 z.hw, .int .i64 z.x.s, .int .i64 z.x.e, .int .i64 z.x.f, .int .i64 z.x.o, .bool z.x.sh, .int .i64 z.x.pr, .int .i64 z.x.mx, .int .i64 z.x.inh, .int .i64 z.x.adv, .bool z.x.wi, .bool z.on] 30)) := (Fr.refl _ _).alloc _
        have hact := act_any (hm.keep hfa) (by have := HI.out.len; omega) HI.out.ok.right z HWA.out.x
        simp only [actC, ent, List.cons_append, List.nil_append] at hact
        have HFA := Lib.hid hfa
        clear hat hcs hgl hfa hm
        go_wp2_with fail
        refine hact.mono ?_
        rintro e w5 ⟨b', v', gn, rfl, hsg, hog, hm5, hkd, hov, hf5⟩
        have HNEW := Lib.hid (HI.out.act HFA.out HWA.out.x hkd hov hf5)
        have HM5 := Lib.hid hm5
        clear hact d0 d1 d2 d3 d4 d5 d6 d7 d8 d9 d10 d11 d12 d13 d14 hm5 hkd hov hf5 hsg hog
        go_wp2
        go_roundw
        case rel => exact ⟨t + 1, b', v', _, by omega, by go_num, rfl, HM5.out, HNEW⟩
        case measure => simp [intOf]; omega
      · obtain rfl : t = N := by omega
        have hl9 : l.length ≤ 180 := by have := HI.out.len; omega
        have hat := vat_any hm (by omega) HI.out.ok.right p
        have HM := Lib.hid hm
        have HPL := Lib.hid (page_law HI.out.ok a HK1.out HK5.out p)
        obtain ⟨⟨ys, ye, yf, yo, ysh, ypr, ymx, yin, yad, ywi⟩, hy⟩ : ∃ y, atL l p = y := ⟨_, rfl⟩
        obtain ⟨had, hhad⟩ : ∃ had, fok l p = had := ⟨_, rfl⟩
        rw [hy, hhad] at hat
        have HY := Lib.hid hy
        have HHAD := Lib.hid hhad
        clear hm hy hhad
        go_wp2_with fail
        refine hat.mono ?_
        rintro e w2 ⟨rfl, hf2⟩
        clear hat
        obtain ⟨b10, hb10⟩ : ∃ b10, w2.heap.size = b10 := ⟨_, rfl⟩
        obtain ⟨W3, hW3⟩ : ∃ W3, w2.alloc (.cells #[.int .i64 ys, .int .i64 ye, .int .i64 yf, .int .i64 yo, .bool ysh, .int .i64 ypr, .int .i64 ymx, .int .i64 yin, .int .i64 yad, .bool ywi] 28) = W3 := ⟨_, rfl⟩
        have o10 : ob W3 b10 = some (.cells #[.int .i64 ys, .int .i64 ye, .int .i64 yf, .int .i64 yo, .bool ysh, .int .i64 ypr, .int .i64 ymx, .int .i64 yin, .int .i64 yad, .bool ywi] 28 (0, 0)) := by rw [← hW3, ← hb10]; exact ob_new _ _
        have hf3 : Fr (fun _ => False) wr W3 := by rw [← hW3]; exact hf2.alloc _
        have hact := act_any (HM.out.keep hf3) (by omega) HI.out.ok.right a HWA0.out.x
        simp only [actC, ent, List.cons_append, List.nil_append] at hact
        have hob3 := (HI.out.fr.also hf2).keep (fun h => h) HOB.out
        have e3 := fun i => cell_of_ob hob3 i
        have r0 : w2.cell? ⟨b3, 0, none⟩ = some (.int .i64 a.kd) := e3 0
        have r1 : w2.cell? ⟨b3, 1, none⟩ = some (.int .i64 a.lo) := e3 1
        have r2 : w2.cell? ⟨b3, 2, none⟩ = some (.int .i64 a.pg) := e3 2
        have r3 : w2.cell? ⟨b3, 3, none⟩ = some (.int .i64 a.hw) := e3 3
        have r4 : w2.cell? ⟨b3, 4, none⟩ = some (.int .i64 a.x.s) := e3 4
        have r5 : w2.cell? ⟨b3, 5, none⟩ = some (.int .i64 a.x.e) := e3 5
        have r6 : w2.cell? ⟨b3, 6, none⟩ = some (.int .i64 a.x.f) := e3 6
        have r7 : w2.cell? ⟨b3, 7, none⟩ = some (.int .i64 a.x.o) := e3 7
        have r8 : w2.cell? ⟨b3, 8, none⟩ = some (.bool a.x.sh) := e3 8
        have r9 : w2.cell? ⟨b3, 9, none⟩ = some (.int .i64 a.x.pr) := e3 9
        have r10 : w2.cell? ⟨b3, 10, none⟩ = some (.int .i64 a.x.mx) := e3 10
        have r11 : w2.cell? ⟨b3, 11, none⟩ = some (.int .i64 a.x.inh) := e3 11
        have r12 : w2.cell? ⟨b3, 12, none⟩ = some (.int .i64 a.x.adv) := e3 12
        have r13 : w2.cell? ⟨b3, 13, none⟩ = some (.bool a.x.wi) := e3 13
        have r14 : w2.cell? ⟨b3, 14, none⟩ = some (.bool a.on) := e3 14
        have s3 := ob_lt hob3
        have HO10 := Lib.hid o10
        have HF3 := Lib.hid hf3
        have HB10 := Lib.hid (show b3 < b10 ∧ b < b10 from ⟨by rw [← hb10]; exact ob_lt ((HI.out.fr.also hf2).keep (fun h => h) HOB.out), by rw [← hb10]; exact Nat.lt_of_lt_of_le HM.out.lt hf2.size⟩)
        have HBW := Lib.hid (show W1.heap.size ≤ b10 by rw [← hb10]; exact (HI.out.fr.also hf2).size)
        have HB1 := Lib.hid (show b10 < (w2.alloc (.cells #[.int .i64 ys, .int .i64 ye, .int .i64 yf, .int .i64 yo, .bool ysh, .int .i64 ypr, .int .i64 ymx, .int .i64 yin, .int .i64 yad, .bool ywi] 28)).heap.size by rw [← hb10]; simp)
        have HW3 := Lib.hid hW3
        have HBB := Lib.hid hb10
        clear o10 hf3 hf2 hW3 hb10 e3 hob3
        go_wp2_with fail
        try rw [HW3.out]
        try rw [HBB.out]
        refine hact.mono ?_
        rintro e w4 ⟨b', v', gv, rfl, hsg, hog, hm4, hkd, hov, hf4⟩
        clear hact r0 r1 r2 r3 r4 r5 r6 r7 r8 r9 r10 r11 r12 r13 r14
        obtain rfl : b' = b := by rcases hkd with ⟨h, _⟩ | ⟨_, h⟩; exact h; have := HK5.out; omega
        obtain ⟨Ag, Ng, Cg, rfl⟩ := hsg.shape
        have hokR := act_ok HI.out.ok (a := a) HWA0.out.x
        obtain ⟨⟨Rn, Rg, Re, Rl⟩, hR⟩ : ∃ R, actV l a = R := ⟨_, rfl⟩
        rw [hR] at hsg hm4 hokR HPL
        simp only [hR]
        dsimp only at *
        have hat := vat_any hm4 (by omega) hokR.1.right p
        obtain ⟨⟨zs, ze, zf, zo, zsh, zpr, zmx, zin, zad, zwi⟩, hz⟩ : ∃ z, atL Rl p = z := ⟨_, rfl⟩
        obtain ⟨hasb, hhas⟩ : ∃ hasb, fok Rl p = hasb := ⟨_, rfl⟩
        rw [hz, hhas] at hat
        have HZ := Lib.hid hz
        have HHAS := Lib.hid hhas
        have HM4 := Lib.hid hm4
        have HSG := Lib.hid hsg
        have HOG := Lib.hid (show ∀ k, (Value.slice Ag Ng Cg).ownBlock = some k → k ≠ b10 from fun k hk => by have h9 := hog k hk; try rw [← HW3.out] at h9; have := HB1.out; omega)
        have HRO := Lib.hid hokR
        have HO4 := Lib.hid (hf4.keep (by have := HB10.out.2; omega) HO10.out)
        have HF4 := Lib.hid (show Fr (fun _ => False) W1 w4 from (HI.out.fr.also HF3.out).step hf4 (fun k hk => .inr (by have := HI.out.lo; omega)))
        clear hR hsg hm4 hokR hz hhas hkd hov hog hf4
        try simp only [HBB.out]
        go_wp2_with fail
        refine hat.mono ?_
        rintro e w5 ⟨rfl, hf5⟩
        clear hat
        obtain ⟨b16, hb16⟩ : ∃ b16, w5.heap.size = b16 := ⟨_, rfl⟩
        obtain ⟨W6, hW6⟩ : ∃ W6, w5.alloc (.cells #[.int .i64 zs, .int .i64 ze, .int .i64 zf, .int .i64 zo, .bool zsh, .int .i64 zpr, .int .i64 zmx, .int .i64 zin, .int .i64 zad, .bool zwi] 28) = W6 := ⟨_, rfl⟩
        have o16 : ob W6 b16 = some (.cells #[.int .i64 zs, .int .i64 ze, .int .i64 zf, .int .i64 zo, .bool zsh, .int .i64 zpr, .int .i64 zmx, .int .i64 zin, .int .i64 zad, .bool zwi] 28 (0, 0)) := by rw [← hW6, ← hb16]; exact ob_new _ _
        have hf6 : Fr (fun _ => False) w4 W6 := by rw [← hW6]; exact hf5.alloc _
        have o10 := hf6.keep (fun h => h) HO4.out
        have o3 := (HF4.out.also hf6).keep (fun h => h) HOB.out
        have hb1016 : b10 < b16 := by rw [← hb16]; exact Nat.lt_of_lt_of_le (ob_lt HO4.out) hf5.size
        have e16 := fun i => cell_of_ob o16 i
        have e10 := fun i => cell_of_ob o10 i
        have e3 := fun i => cell_of_ob o3 i
        have u0 : W6.cell? ⟨b16, 0, none⟩ = some (.int .i64 zs) := e16 0
        have u1 : W6.cell? ⟨b16, 1, none⟩ = some (.int .i64 ze) := e16 1
        have u2 : W6.cell? ⟨b16, 2, none⟩ = some (.int .i64 zf) := e16 2
        have u3 : W6.cell? ⟨b16, 3, none⟩ = some (.int .i64 zo) := e16 3
        have u4 : W6.cell? ⟨b16, 4, none⟩ = some (.bool zsh) := e16 4
        have u5 : W6.cell? ⟨b16, 5, none⟩ = some (.int .i64 zpr) := e16 5
        have u6 : W6.cell? ⟨b16, 6, none⟩ = some (.int .i64 zmx) := e16 6
        have u7 : W6.cell? ⟨b16, 7, none⟩ = some (.int .i64 zin) := e16 7
        have u8 : W6.cell? ⟨b16, 8, none⟩ = some (.int .i64 zad) := e16 8
        have u9 : W6.cell? ⟨b16, 9, none⟩ = some (.bool zwi) := e16 9
        have v0 : W6.cell? ⟨b10, 0, none⟩ = some (.int .i64 ys) := e10 0
        have v1 : W6.cell? ⟨b10, 1, none⟩ = some (.int .i64 ye) := e10 1
        have v2 : W6.cell? ⟨b10, 2, none⟩ = some (.int .i64 yf) := e10 2
        have v3 : W6.cell? ⟨b10, 3, none⟩ = some (.int .i64 yo) := e10 3
        have v4 : W6.cell? ⟨b10, 4, none⟩ = some (.bool ysh) := e10 4
        have v5 : W6.cell? ⟨b10, 5, none⟩ = some (.int .i64 ypr) := e10 5
        have v6 : W6.cell? ⟨b10, 6, none⟩ = some (.int .i64 ymx) := e10 6
        have v7 : W6.cell? ⟨b10, 7, none⟩ = some (.int .i64 yin) := e10 7
        have v8 : W6.cell? ⟨b10, 8, none⟩ = some (.int .i64 yad) := e10 8
        have v9 : W6.cell? ⟨b10, 9, none⟩ = some (.bool ywi) := e10 9
        have r0 : W6.cell? ⟨b3, 0, none⟩ = some (.int .i64 a.kd) := e3 0
        have r1 : W6.cell? ⟨b3, 1, none⟩ = some (.int .i64 a.lo) := e3 1
        have r2 : W6.cell? ⟨b3, 2, none⟩ = some (.int .i64 a.pg) := e3 2
        have r3 : W6.cell? ⟨b3, 3, none⟩ = some (.int .i64 a.hw) := e3 3
        have r4 : W6.cell? ⟨b3, 4, none⟩ = some (.int .i64 a.x.s) := e3 4
        have r5 : W6.cell? ⟨b3, 5, none⟩ = some (.int .i64 a.x.e) := e3 5
        have r6 : W6.cell? ⟨b3, 6, none⟩ = some (.int .i64 a.x.f) := e3 6
        have r7 : W6.cell? ⟨b3, 7, none⟩ = some (.int .i64 a.x.o) := e3 7
        have r8 : W6.cell? ⟨b3, 8, none⟩ = some (.bool a.x.sh) := e3 8
        have r9 : W6.cell? ⟨b3, 9, none⟩ = some (.int .i64 a.x.pr) := e3 9
        have r10 : W6.cell? ⟨b3, 10, none⟩ = some (.int .i64 a.x.mx) := e3 10
        have r11 : W6.cell? ⟨b3, 11, none⟩ = some (.int .i64 a.x.inh) := e3 11
        have r12 : W6.cell? ⟨b3, 12, none⟩ = some (.int .i64 a.x.adv) := e3 12
        have r13 : W6.cell? ⟨b3, 13, none⟩ = some (.bool a.x.wi) := e3 13
        have r14 : W6.cell? ⟨b3, 14, none⟩ = some (.bool a.on) := e3 14
        have t3 := ob_lt o3
        have t10 := ob_lt o10
        have t16 := ob_lt o16
        have z10 := fun i => frozen_of_ob o10 i
        have HO10 := Lib.hid o10
        have HO16 := Lib.hid o16
        have HO3 := Lib.hid o3
        have HF6 := Lib.hid (HF4.out.also hf6)
        have HSG6 := Lib.hid (Sl.fr HSG.out hf6 (fun _ _ h => h))
        have HW6 := Lib.hid hW6
        have HB16 := Lib.hid hb16
        clear hf5 hf6 o10 o16 o3 e16 e10 e3 hW6 hb16
        go_upto_region 12 with fail
        try rw [HW6.out]
        try rw [HB16.out]
        by_cases he : Re = 0
        · subst he
          obtain ⟨g1, g2, g3, g4⟩ := withinB_iff.1 (HPL.out.within rfl)
          by_cases h1 : a.lo ≤ p
          · by_cases h2 : p - a.lo < a.pg
            · 
              have hPI := HPL.out
              by_cases hkd1 : a.kd = 1
              · obtain ⟨q1, q2⟩ := hPI.cut rfl h1 (by omega) hkd1
                obtain rfl : hasb = false := by rw [← HHAS.out]; exact q1
                have HQ2 := Lib.hid q2
                have HG1 := Lib.hid (show rightB 0 Rg = true from hPI.gright)
                have HG2 := Lib.hid (show Rg.length ≤ l.length + 2 from hPI.glen)
                clear hPI q1 q2
                go_upto_region 13 with fail
                go_region
                have o10 : ob ((((W6.setCell ⟨b10, 0, none⟩ (.int .i64 zs)).setCell ⟨b10, 1, none⟩ (.int .i64 ze)).setCell ⟨b10, 3, none⟩ (.int .i64 zo)).drew) b10 = some (.cells #[.int .i64 zs, .int .i64 ze, .int .i64 yf, .int .i64 zo, .bool ysh, .int .i64 ypr, .int .i64 ymx, .int .i64 yin, .int .i64 yad, .bool ywi] 28 (0, 0)) := by
                  rw [ob_drew, ob_setCell_same (ob_setCell_same (ob_setCell_same HO10.out (.int .i64 zs)) (.int .i64 ze)) (.int .i64 zo)]
                  simp
                have hf7 : Fr (fun k => k = b10) W6 ((((W6.setCell ⟨b10, 0, none⟩ (.int .i64 zs)).setCell ⟨b10, 1, none⟩ (.int .i64 ze)).setCell ⟨b10, 3, none⟩ (.int .i64 zo)).drew) := by
                  have g1 := (Fr.refl (fun k => k = b10) W6).setCell ⟨b10, 0, none⟩ (.int .i64 zs) (.inl rfl)
                  have g2 := g1.setCell ⟨b10, 1, none⟩ (.int .i64 ze) (.inl rfl)
                  have g3 := g2.setCell ⟨b10, 3, none⟩ (.int .i64 zo) (.inl rfl)
                  exact g3.drew
                obtain ⟨w7, hw7⟩ : ∃ w7, (((W6.setCell ⟨b10, 0, none⟩ (.int .i64 zs)).setCell ⟨b10, 1, none⟩ (.int .i64 ze)).setCell ⟨b10, 3, none⟩ (.int .i64 zo)).drew = w7 := ⟨_, rfl⟩
                rw [hw7] at o10 hf7 ⊢
                clear hw7
                have o16 := hf7.keep (by omega) HO16.out
                have o3 := hf7.keep (by have := HB10.out.1; omega) HO3.out
                have e16 := fun i => cell_of_ob o16 i
                have e10 := fun i => cell_of_ob o10 i
                have e3 := fun i => cell_of_ob o3 i
                clear u0 u1 u2 u3 u4 u5 u6 u7 u8 u9 v0 v1 v2 v3 v4 v5 v6 v7 v8 v9 r0 r1 r2 r3 r4 r5 r6 r7 r8 r9 r10 r11 r12 r13 r14 z10
                have u0 : w7.cell? ⟨b16, 0, none⟩ = some (.int .i64 zs) := e16 0
                have u1 : w7.cell? ⟨b16, 1, none⟩ = some (.int .i64 ze) := e16 1
                have u2 : w7.cell? ⟨b16, 2, none⟩ = some (.int .i64 zf) := e16 2
                have u3 : w7.cell? ⟨b16, 3, none⟩ = some (.int .i64 zo) := e16 3
                have u4 : w7.cell? ⟨b16, 4, none⟩ = some (.bool zsh) := e16 4
                have u5 : w7.cell? ⟨b16, 5, none⟩ = some (.int .i64 zpr) := e16 5
                have u6 : w7.cell? ⟨b16, 6, none⟩ = some (.int .i64 zmx) := e16 6
                have u7 : w7.cell? ⟨b16, 7, none⟩ = some (.int .i64 zin) := e16 7
                have u8 : w7.cell? ⟨b16, 8, none⟩ = some (.int .i64 zad) := e16 8
                have u9 : w7.cell? ⟨b16, 9, none⟩ = some (.bool zwi) := e16 9
                have v0 : w7.cell? ⟨b10, 0, none⟩ = some (.int .i64 zs) := e10 0
                have v1 : w7.cell? ⟨b10, 1, none⟩ = some (.int .i64 ze) := e10 1
                have v2 : w7.cell? ⟨b10, 2, none⟩ = some (.int .i64 yf) := e10 2
                have v3 : w7.cell? ⟨b10, 3, none⟩ = some (.int .i64 zo) := e10 3
                have v4 : w7.cell? ⟨b10, 4, none⟩ = some (.bool ysh) := e10 4
                have v5 : w7.cell? ⟨b10, 5, none⟩ = some (.int .i64 ypr) := e10 5
                have v6 : w7.cell? ⟨b10, 6, none⟩ = some (.int .i64 ymx) := e10 6
                have v7 : w7.cell? ⟨b10, 7, none⟩ = some (.int .i64 yin) := e10 7
                have v8 : w7.cell? ⟨b10, 8, none⟩ = some (.int .i64 yad) := e10 8
                have v9 : w7.cell? ⟨b10, 9, none⟩ = some (.bool ywi) := e10 9
                have r0 : w7.cell? ⟨b3, 0, none⟩ = some (.int .i64 a.kd) := e3 0
                have r1 : w7.cell? ⟨b3, 1, none⟩ = some (.int .i64 a.lo) := e3 1
                have r2 : w7.cell? ⟨b3, 2, none⟩ = some (.int .i64 a.pg) := e3 2
                have r3 : w7.cell? ⟨b3, 3, none⟩ = some (.int .i64 a.hw) := e3 3
                have r4 : w7.cell? ⟨b3, 4, none⟩ = some (.int .i64 a.x.s) := e3 4
                have r5 : w7.cell? ⟨b3, 5, none⟩ = some (.int .i64 a.x.e) := e3 5
                have r6 : w7.cell? ⟨b3, 6, none⟩ = some (.int .i64 a.x.f) := e3 6
                have r7 : w7.cell? ⟨b3, 7, none⟩ = some (.int .i64 a.x.o) := e3 7
                have r8 : w7.cell? ⟨b3, 8, none⟩ = some (.bool a.x.sh) := e3 8
                have r9 : w7.cell? ⟨b3, 9, none⟩ = some (.int .i64 a.x.pr) := e3 9
                have r10 : w7.cell? ⟨b3, 10, none⟩ = some (.int .i64 a.x.mx) := e3 10
                have r11 : w7.cell? ⟨b3, 11, none⟩ = some (.int .i64 a.x.inh) := e3 11
                have r12 : w7.cell? ⟨b3, 12, none⟩ = some (.int .i64 a.x.adv) := e3 12
                have r13 : w7.cell? ⟨b3, 13, none⟩ = some (.bool a.x.wi) := e3 13
                have r14 : w7.cell? ⟨b3, 14, none⟩ = some (.bool a.on) := e3 14
                have z10 := fun i => frozen_of_ob o10 i
                have t3 := ob_lt o3
                have t10 := ob_lt o10
                have t16 := ob_lt o16
                have HF7 := Lib.hid (show Fr (fun _ => False) W1 w7 from HF6.out.step hf7 (fun k hk => .inr (by have := HBW.out; omega)))
                have HSG7 := Lib.hid (Sl.fr HSG6.out hf7 (fun k hk => HOG.out k hk))
                clear e16 e10 e3 o16 o10 o3 hf7
                have hfi := find_any (Sl.rd HSG7.out) (by have := HG2.out; omega) (ends_of_right HG1.out) p
                rw [show fok Rg p = fok l p from HQ2.out, HHAD.out] at hfi
                go_wp2_with fail
                refine hfi.mono ?_
                rintro e w8 ⟨rfl, hf8⟩
                have HF8 := Lib.hid (HF7.out.also hf8)
                clear hfi hf8
                go_wp2_with fail
                refine (vlives_any _).mono ?_
                rintro e w9 ⟨rfl, hf9⟩
                have HF9 := Lib.hid (HFA.out.also (HF8.out.also hf9))
                clear hf9
                go_wp2
                go_ret
                exact ⟨rfl, HF9.out⟩
              · obtain ⟨u, qu, qs⟩ := hPI.set rfl h1 (by omega) hkd1
                obtain rfl : had = true := by rw [← HHAD.out, pv_fok, qu]; rfl
                rw [pv_at HHAD.out] at qu
                obtain rfl := Option.some.inj qu
                have hh : fok Rl p = true := by rw [pv_fok, qs]; rfl
                obtain rfl : hasb = true := by rw [← HHAS.out]; exact hh
                rw [pv_at hh] at qs
                have hv := Option.some.inj qs
                rw [HZ.out, HY.out] at hv
                clear qu qs hh hPI
                by_cases hkd2 : a.kd = 2
                · have hv2 : attr ⟨zs, ze, zf, zo, zsh, zpr, zmx, zin, zad, zwi⟩ p = prA a.hw (attr ⟨ys, ye, yf, yo, ysh, ypr, ymx, yin, yad, ywi⟩ p) := by rw [hv]; simp [hkd2]
                  simp only [attr, prA, Att.mk.injEq] at hv2
                  obtain ⟨m1, m2, m3, m4, m5, m6, m7, -⟩ := hv2
                  replace m1 := m1.symm; replace m2 := m2.symm; replace m3 := m3.symm; replace m4 := m4.symm; replace m5 := m5.symm; replace m6 := m6.symm; replace m7 := m7.symm
                  subst m1; subst m2; subst m3; subst m4; subst m5; subst m6; subst m7
                  have hE := eqb_refl ⟨zs, ze, yf, zo, ysh, a.hw, ymx, yin, yad, ywi⟩
                  clear hv
                  go_upto_region 13 with fail
                  go_region
                  have o10 : ob ((((W6.setCell ⟨b10, 0, none⟩ (.int .i64 zs)).setCell ⟨b10, 1, none⟩ (.int .i64 ze)).setCell ⟨b10, 3, none⟩ (.int .i64 zo)).drew) b10 = some (.cells #[.int .i64 zs, .int .i64 ze, .int .i64 yf, .int .i64 zo, .bool ysh, .int .i64 ypr, .int .i64 ymx, .int .i64 yin, .int .i64 yad, .bool ywi] 28 (0, 0)) := by
                    rw [ob_drew, ob_setCell_same (ob_setCell_same (ob_setCell_same HO10.out (.int .i64 zs)) (.int .i64 ze)) (.int .i64 zo)]
                    simp
                  have hf7 : Fr (fun k => k = b10) W6 ((((W6.setCell ⟨b10, 0, none⟩ (.int .i64 zs)).setCell ⟨b10, 1, none⟩ (.int .i64 ze)).setCell ⟨b10, 3, none⟩ (.int .i64 zo)).drew) := by
                    have g1 := (Fr.refl (fun k => k = b10) W6).setCell ⟨b10, 0, none⟩ (.int .i64 zs) (.inl rfl)
                    have g2 := g1.setCell ⟨b10, 1, none⟩ (.int .i64 ze) (.inl rfl)
                    have g3 := g2.setCell ⟨b10, 3, none⟩ (.int .i64 zo) (.inl rfl)
                    exact g3.drew
                  obtain ⟨w7, hw7⟩ : ∃ w7, (((W6.setCell ⟨b10, 0, none⟩ (.int .i64 zs)).setCell ⟨b10, 1, none⟩ (.int .i64 ze)).setCell ⟨b10, 3, none⟩ (.int .i64 zo)).drew = w7 := ⟨_, rfl⟩
                  rw [hw7] at o10 hf7 ⊢
                  clear hw7
                  have o16 := hf7.keep (by omega) HO16.out
                  have o3 := hf7.keep (by have := HB10.out.1; omega) HO3.out
                  have e16 := fun i => cell_of_ob o16 i
                  have e10 := fun i => cell_of_ob o10 i
                  have e3 := fun i => cell_of_ob o3 i
                  clear u0 u1 u2 u3 u4 u5 u6 u7 u8 u9 v0 v1 v2 v3 v4 v5 v6 v7 v8 v9 r0 r1 r2 r3 r4 r5 r6 r7 r8 r9 r10 r11 r12 r13 r14 z10
                  have u0 : w7.cell? ⟨b16, 0, none⟩ = some (.int .i64 zs) := e16 0
                  have u1 : w7.cell? ⟨b16, 1, none⟩ = some (.int .i64 ze) := e16 1
                  have u2 : w7.cell? ⟨b16, 2, none⟩ = some (.int .i64 yf) := e16 2
                  have u3 : w7.cell? ⟨b16, 3, none⟩ = some (.int .i64 zo) := e16 3
                  have u4 : w7.cell? ⟨b16, 4, none⟩ = some (.bool ysh) := e16 4
                  have u5 : w7.cell? ⟨b16, 5, none⟩ = some (.int .i64 a.hw) := e16 5
                  have u6 : w7.cell? ⟨b16, 6, none⟩ = some (.int .i64 ymx) := e16 6
                  have u7 : w7.cell? ⟨b16, 7, none⟩ = some (.int .i64 yin) := e16 7
                  have u8 : w7.cell? ⟨b16, 8, none⟩ = some (.int .i64 yad) := e16 8
                  have u9 : w7.cell? ⟨b16, 9, none⟩ = some (.bool ywi) := e16 9
                  have v0 : w7.cell? ⟨b10, 0, none⟩ = some (.int .i64 zs) := e10 0
                  have v1 : w7.cell? ⟨b10, 1, none⟩ = some (.int .i64 ze) := e10 1
                  have v2 : w7.cell? ⟨b10, 2, none⟩ = some (.int .i64 yf) := e10 2
                  have v3 : w7.cell? ⟨b10, 3, none⟩ = some (.int .i64 zo) := e10 3
                  have v4 : w7.cell? ⟨b10, 4, none⟩ = some (.bool ysh) := e10 4
                  have v5 : w7.cell? ⟨b10, 5, none⟩ = some (.int .i64 ypr) := e10 5
                  have v6 : w7.cell? ⟨b10, 6, none⟩ = some (.int .i64 ymx) := e10 6
                  have v7 : w7.cell? ⟨b10, 7, none⟩ = some (.int .i64 yin) := e10 7
                  have v8 : w7.cell? ⟨b10, 8, none⟩ = some (.int .i64 yad) := e10 8
                  have v9 : w7.cell? ⟨b10, 9, none⟩ = some (.bool ywi) := e10 9
                  have r0 : w7.cell? ⟨b3, 0, none⟩ = some (.int .i64 a.kd) := e3 0
                  have r1 : w7.cell? ⟨b3, 1, none⟩ = some (.int .i64 a.lo) := e3 1
                  have r2 : w7.cell? ⟨b3, 2, none⟩ = some (.int .i64 a.pg) := e3 2
                  have r3 : w7.cell? ⟨b3, 3, none⟩ = some (.int .i64 a.hw) := e3 3
                  have r4 : w7.cell? ⟨b3, 4, none⟩ = some (.int .i64 a.x.s) := e3 4
                  have r5 : w7.cell? ⟨b3, 5, none⟩ = some (.int .i64 a.x.e) := e3 5
                  have r6 : w7.cell? ⟨b3, 6, none⟩ = some (.int .i64 a.x.f) := e3 6
                  have r7 : w7.cell? ⟨b3, 7, none⟩ = some (.int .i64 a.x.o) := e3 7
                  have r8 : w7.cell? ⟨b3, 8, none⟩ = some (.bool a.x.sh) := e3 8
                  have r9 : w7.cell? ⟨b3, 9, none⟩ = some (.int .i64 a.x.pr) := e3 9
                  have r10 : w7.cell? ⟨b3, 10, none⟩ = some (.int .i64 a.x.mx) := e3 10
                  have r11 : w7.cell? ⟨b3, 11, none⟩ = some (.int .i64 a.x.inh) := e3 11
                  have r12 : w7.cell? ⟨b3, 12, none⟩ = some (.int .i64 a.x.adv) := e3 12
                  have r13 : w7.cell? ⟨b3, 13, none⟩ = some (.bool a.x.wi) := e3 13
                  have r14 : w7.cell? ⟨b3, 14, none⟩ = some (.bool a.on) := e3 14
                  have z10 := fun i => frozen_of_ob o10 i
                  have t3 := ob_lt o3
                  have t10 := ob_lt o10
                  have t16 := ob_lt o16
                  have HF7 := Lib.hid (show Fr (fun _ => False) W1 w7 from HF6.out.step hf7 (fun k hk => .inr (by have := HBW.out; omega)))
                  have HSG7 := Lib.hid (Sl.fr HSG6.out hf7 (fun k hk => HOG.out k hk))
                  clear e16 e10 e3 o16 o10 o3 hf7
                  go_wp2_with fail
                  refine (vlives_any _).mono ?_
                  rintro e w9 ⟨rfl, hf9⟩
                  have HF9 := Lib.hid (HFA.out.also ((HF7.out.setCell _ _ (.inr (by have := HBW.out; show W1.heap.size ≤ b10; omega))).also hf9))
                  clear hf9
                  go_wp2
                  go_ret
                  exact ⟨rfl, HF9.out⟩
                · 
                  by_cases hkd3 : a.kd = 3
                  · have hv2 : attr ⟨zs, ze, zf, zo, zsh, zpr, zmx, zin, zad, zwi⟩ p = inA a.hw (attr ⟨ys, ye, yf, yo, ysh, ypr, ymx, yin, yad, ywi⟩ p) := by rw [hv]; simp [hkd2, hkd3]
                    simp only [attr, inA, Att.mk.injEq] at hv2
                    obtain ⟨m1, m2, m3, m4, m5, m6, m7, -⟩ := hv2
                    replace m1 := m1.symm; replace m2 := m2.symm; replace m3 := m3.symm; replace m4 := m4.symm; replace m5 := m5.symm; replace m6 := m6.symm; replace m7 := m7.symm
                    subst m1; subst m2; subst m3; subst m4; subst m5; subst m6; subst m7
                    have hE := eqb_refl ⟨zs, ze, yf, zo, ysh, ypr, ymx, a.hw, yad, ywi⟩
                    clear hv
                    go_upto_region 13 with fail
                    go_region
                    have o10 : ob ((((W6.setCell ⟨b10, 0, none⟩ (.int .i64 zs)).setCell ⟨b10, 1, none⟩ (.int .i64 ze)).setCell ⟨b10, 3, none⟩ (.int .i64 zo)).drew) b10 = some (.cells #[.int .i64 zs, .int .i64 ze, .int .i64 yf, .int .i64 zo, .bool ysh, .int .i64 ypr, .int .i64 ymx, .int .i64 yin, .int .i64 yad, .bool ywi] 28 (0, 0)) := by
                      rw [ob_drew, ob_setCell_same (ob_setCell_same (ob_setCell_same HO10.out (.int .i64 zs)) (.int .i64 ze)) (.int .i64 zo)]
                      simp
                    have hf7 : Fr (fun k => k = b10) W6 ((((W6.setCell ⟨b10, 0, none⟩ (.int .i64 zs)).setCell ⟨b10, 1, none⟩ (.int .i64 ze)).setCell ⟨b10, 3, none⟩ (.int .i64 zo)).drew) := by
                      have g1 := (Fr.refl (fun k => k = b10) W6).setCell ⟨b10, 0, none⟩ (.int .i64 zs) (.inl rfl)
                      have g2 := g1.setCell ⟨b10, 1, none⟩ (.int .i64 ze) (.inl rfl)
                      have g3 := g2.setCell ⟨b10, 3, none⟩ (.int .i64 zo) (.inl rfl)
                      exact g3.drew
                    obtain ⟨w7, hw7⟩ : ∃ w7, (((W6.setCell ⟨b10, 0, none⟩ (.int .i64 zs)).setCell ⟨b10, 1, none⟩ (.int .i64 ze)).setCell ⟨b10, 3, none⟩ (.int .i64 zo)).drew = w7 := ⟨_, rfl⟩
                    rw [hw7] at o10 hf7 ⊢
                    clear hw7
                    have o16 := hf7.keep (by omega) HO16.out
                    have o3 := hf7.keep (by have := HB10.out.1; omega) HO3.out
                    have e16 := fun i => cell_of_ob o16 i
                    have e10 := fun i => cell_of_ob o10 i
                    have e3 := fun i => cell_of_ob o3 i
                    clear u0 u1 u2 u3 u4 u5 u6 u7 u8 u9 v0 v1 v2 v3 v4 v5 v6 v7 v8 v9 r0 r1 r2 r3 r4 r5 r6 r7 r8 r9 r10 r11 r12 r13 r14 z10
                    have u0 : w7.cell? ⟨b16, 0, none⟩ = some (.int .i64 zs) := e16 0
                    have u1 : w7.cell? ⟨b16, 1, none⟩ = some (.int .i64 ze) := e16 1
                    have u2 : w7.cell? ⟨b16, 2, none⟩ = some (.int .i64 yf) := e16 2
                    have u3 : w7.cell? ⟨b16, 3, none⟩ = some (.int .i64 zo) := e16 3
                    have u4 : w7.cell? ⟨b16, 4, none⟩ = some (.bool ysh) := e16 4
                    have u5 : w7.cell? ⟨b16, 5, none⟩ = some (.int .i64 ypr) := e16 5
                    have u6 : w7.cell? ⟨b16, 6, none⟩ = some (.int .i64 ymx) := e16 6
                    have u7 : w7.cell? ⟨b16, 7, none⟩ = some (.int .i64 a.hw) := e16 7
                    have u8 : w7.cell? ⟨b16, 8, none⟩ = some (.int .i64 yad) := e16 8
                    have u9 : w7.cell? ⟨b16, 9, none⟩ = some (.bool ywi) := e16 9
                    have v0 : w7.cell? ⟨b10, 0, none⟩ = some (.int .i64 zs) := e10 0
                    have v1 : w7.cell? ⟨b10, 1, none⟩ = some (.int .i64 ze) := e10 1
                    have v2 : w7.cell? ⟨b10, 2, none⟩ = some (.int .i64 yf) := e10 2
                    have v3 : w7.cell? ⟨b10, 3, none⟩ = some (.int .i64 zo) := e10 3
                    have v4 : w7.cell? ⟨b10, 4, none⟩ = some (.bool ysh) := e10 4
                    have v5 : w7.cell? ⟨b10, 5, none⟩ = some (.int .i64 ypr) := e10 5
                    have v6 : w7.cell? ⟨b10, 6, none⟩ = some (.int .i64 ymx) := e10 6
                    have v7 : w7.cell? ⟨b10, 7, none⟩ = some (.int .i64 yin) := e10 7
                    have v8 : w7.cell? ⟨b10, 8, none⟩ = some (.int .i64 yad) := e10 8
                    have v9 : w7.cell? ⟨b10, 9, none⟩ = some (.bool ywi) := e10 9
                    have r0 : w7.cell? ⟨b3, 0, none⟩ = some (.int .i64 a.kd) := e3 0
                    have r1 : w7.cell? ⟨b3, 1, none⟩ = some (.int .i64 a.lo) := e3 1
                    have r2 : w7.cell? ⟨b3, 2, none⟩ = some (.int .i64 a.pg) := e3 2
                    have r3 : w7.cell? ⟨b3, 3, none⟩ = some (.int .i64 a.hw) := e3 3
                    have r4 : w7.cell? ⟨b3, 4, none⟩ = some (.int .i64 a.x.s) := e3 4
                    have r5 : w7.cell? ⟨b3, 5, none⟩ = some (.int .i64 a.x.e) := e3 5
                    have r6 : w7.cell? ⟨b3, 6, none⟩ = some (.int .i64 a.x.f) := e3 6
                    have r7 : w7.cell? ⟨b3, 7, none⟩ = some (.int .i64 a.x.o) := e3 7
                    have r8 : w7.cell? ⟨b3, 8, none⟩ = some (.bool a.x.sh) := e3 8
                    have r9 : w7.cell? ⟨b3, 9, none⟩ = some (.int .i64 a.x.pr) := e3 9
                    have r10 : w7.cell? ⟨b3, 10, none⟩ = some (.int .i64 a.x.mx) := e3 10
                    have r11 : w7.cell? ⟨b3, 11, none⟩ = some (.int .i64 a.x.inh) := e3 11
                    have r12 : w7.cell? ⟨b3, 12, none⟩ = some (.int .i64 a.x.adv) := e3 12
                    have r13 : w7.cell? ⟨b3, 13, none⟩ = some (.bool a.x.wi) := e3 13
                    have r14 : w7.cell? ⟨b3, 14, none⟩ = some (.bool a.on) := e3 14
                    have z10 := fun i => frozen_of_ob o10 i
                    have t3 := ob_lt o3
                    have t10 := ob_lt o10
                    have t16 := ob_lt o16
                    have HF7 := Lib.hid (show Fr (fun _ => False) W1 w7 from HF6.out.step hf7 (fun k hk => .inr (by have := HBW.out; omega)))
                    have HSG7 := Lib.hid (Sl.fr HSG6.out hf7 (fun k hk => HOG.out k hk))
                    clear e16 e10 e3 o16 o10 o3 hf7
                    go_wp2_with fail
                    refine (vlives_any _).mono ?_
                    rintro e w9 ⟨rfl, hf9⟩
                    have HF9 := Lib.hid (HFA.out.also ((HF7.out.setCell _ _ (.inr (by have := HBW.out; show W1.heap.size ≤ b10; omega))).also hf9))
                    clear hf9
                    go_wp2
                    go_ret
                    exact ⟨rfl, HF9.out⟩
                  · 
                    by_cases hkd4 : a.kd = 4
                    · have hv2 : attr ⟨zs, ze, zf, zo, zsh, zpr, zmx, zin, zad, zwi⟩ p = adA a.hw (attr ⟨ys, ye, yf, yo, ysh, ypr, ymx, yin, yad, ywi⟩ p) := by rw [hv]; simp [hkd2, hkd3, hkd4]
                      simp only [attr, adA, Att.mk.injEq] at hv2
                      obtain ⟨m1, m2, m3, m4, m5, m6, m7, -⟩ := hv2
                      replace m1 := m1.symm; replace m2 := m2.symm; replace m3 := m3.symm; replace m4 := m4.symm; replace m5 := m5.symm; replace m6 := m6.symm; replace m7 := m7.symm
                      subst m1; subst m2; subst m3; subst m4; subst m5; subst m6; subst m7
                      have hE := eqb_refl ⟨zs, ze, yf, zo, ysh, ypr, ymx, yin, a.hw, ywi⟩
                      clear hv
                      go_upto_region 13 with fail
                      go_region
                      have o10 : ob ((((W6.setCell ⟨b10, 0, none⟩ (.int .i64 zs)).setCell ⟨b10, 1, none⟩ (.int .i64 ze)).setCell ⟨b10, 3, none⟩ (.int .i64 zo)).drew) b10 = some (.cells #[.int .i64 zs, .int .i64 ze, .int .i64 yf, .int .i64 zo, .bool ysh, .int .i64 ypr, .int .i64 ymx, .int .i64 yin, .int .i64 yad, .bool ywi] 28 (0, 0)) := by
                        rw [ob_drew, ob_setCell_same (ob_setCell_same (ob_setCell_same HO10.out (.int .i64 zs)) (.int .i64 ze)) (.int .i64 zo)]
                        simp
                      have hf7 : Fr (fun k => k = b10) W6 ((((W6.setCell ⟨b10, 0, none⟩ (.int .i64 zs)).setCell ⟨b10, 1, none⟩ (.int .i64 ze)).setCell ⟨b10, 3, none⟩ (.int .i64 zo)).drew) := by
                        have g1 := (Fr.refl (fun k => k = b10) W6).setCell ⟨b10, 0, none⟩ (.int .i64 zs) (.inl rfl)
                        have g2 := g1.setCell ⟨b10, 1, none⟩ (.int .i64 ze) (.inl rfl)
                        have g3 := g2.setCell ⟨b10, 3, none⟩ (.int .i64 zo) (.inl rfl)
                        exact g3.drew
                      obtain ⟨w7, hw7⟩ : ∃ w7, (((W6.setCell ⟨b10, 0, none⟩ (.int .i64 zs)).setCell ⟨b10, 1, none⟩ (.int .i64 ze)).setCell ⟨b10, 3, none⟩ (.int .i64 zo)).drew = w7 := ⟨_, rfl⟩
                      rw [hw7] at o10 hf7 ⊢
                      clear hw7
                      have o16 := hf7.keep (by omega) HO16.out
                      have o3 := hf7.keep (by have := HB10.out.1; omega) HO3.out
                      have e16 := fun i => cell_of_ob o16 i
                      have e10 := fun i => cell_of_ob o10 i
                      have e3 := fun i => cell_of_ob o3 i
                      clear u0 u1 u2 u3 u4 u5 u6 u7 u8 u9 v0 v1 v2 v3 v4 v5 v6 v7 v8 v9 r0 r1 r2 r3 r4 r5 r6 r7 r8 r9 r10 r11 r12 r13 r14 z10
                      have u0 : w7.cell? ⟨b16, 0, none⟩ = some (.int .i64 zs) := e16 0
                      have u1 : w7.cell? ⟨b16, 1, none⟩ = some (.int .i64 ze) := e16 1
                      have u2 : w7.cell? ⟨b16, 2, none⟩ = some (.int .i64 yf) := e16 2
                      have u3 : w7.cell? ⟨b16, 3, none⟩ = some (.int .i64 zo) := e16 3
                      have u4 : w7.cell? ⟨b16, 4, none⟩ = some (.bool ysh) := e16 4
                      have u5 : w7.cell? ⟨b16, 5, none⟩ = some (.int .i64 ypr) := e16 5
                      have u6 : w7.cell? ⟨b16, 6, none⟩ = some (.int .i64 ymx) := e16 6
                      have u7 : w7.cell? ⟨b16, 7, none⟩ = some (.int .i64 yin) := e16 7
                      have u8 : w7.cell? ⟨b16, 8, none⟩ = some (.int .i64 a.hw) := e16 8
                      have u9 : w7.cell? ⟨b16, 9, none⟩ = some (.bool ywi) := e16 9
                      have v0 : w7.cell? ⟨b10, 0, none⟩ = some (.int .i64 zs) := e10 0
                      have v1 : w7.cell? ⟨b10, 1, none⟩ = some (.int .i64 ze) := e10 1
                      have v2 : w7.cell? ⟨b10, 2, none⟩ = some (.int .i64 yf) := e10 2
                      have v3 : w7.cell? ⟨b10, 3, none⟩ = some (.int .i64 zo) := e10 3
                      have v4 : w7.cell? ⟨b10, 4, none⟩ = some (.bool ysh) := e10 4
                      have v5 : w7.cell? ⟨b10, 5, none⟩ = some (.int .i64 ypr) := e10 5
                      have v6 : w7.cell? ⟨b10, 6, none⟩ = some (.int .i64 ymx) := e10 6
                      have v7 : w7.cell? ⟨b10, 7, none⟩ = some (.int .i64 yin) := e10 7
                      have v8 : w7.cell? ⟨b10, 8, none⟩ = some (.int .i64 yad) := e10 8
                      have v9 : w7.cell? ⟨b10, 9, none⟩ = some (.bool ywi) := e10 9
                      have r0 : w7.cell? ⟨b3, 0, none⟩ = some (.int .i64 a.kd) := e3 0
                      have r1 : w7.cell? ⟨b3, 1, none⟩ = some (.int .i64 a.lo) := e3 1
                      have r2 : w7.cell? ⟨b3, 2, none⟩ = some (.int .i64 a.pg) := e3 2
                      have r3 : w7.cell? ⟨b3, 3, none⟩ = some (.int .i64 a.hw) := e3 3
                      have r4 : w7.cell? ⟨b3, 4, none⟩ = some (.int .i64 a.x.s) := e3 4
                      have r5 : w7.cell? ⟨b3, 5, none⟩ = some (.int .i64 a.x.e) := e3 5
                      have r6 : w7.cell? ⟨b3, 6, none⟩ = some (.int .i64 a.x.f) := e3 6
                      have r7 : w7.cell? ⟨b3, 7, none⟩ = some (.int .i64 a.x.o) := e3 7
                      have r8 : w7.cell? ⟨b3, 8, none⟩ = some (.bool a.x.sh) := e3 8
                      have r9 : w7.cell? ⟨b3, 9, none⟩ = some (.int .i64 a.x.pr) := e3 9
                      have r10 : w7.cell? ⟨b3, 10, none⟩ = some (.int .i64 a.x.mx) := e3 10
                      have r11 : w7.cell? ⟨b3, 11, none⟩ = some (.int .i64 a.x.inh) := e3 11
                      have r12 : w7.cell? ⟨b3, 12, none⟩ = some (.int .i64 a.x.adv) := e3 12
                      have r13 : w7.cell? ⟨b3, 13, none⟩ = some (.bool a.x.wi) := e3 13
                      have r14 : w7.cell? ⟨b3, 14, none⟩ = some (.bool a.on) := e3 14
                      have z10 := fun i => frozen_of_ob o10 i
                      have t3 := ob_lt o3
                      have t10 := ob_lt o10
                      have t16 := ob_lt o16
                      have HF7 := Lib.hid (show Fr (fun _ => False) W1 w7 from HF6.out.step hf7 (fun k hk => .inr (by have := HBW.out; omega)))
                      have HSG7 := Lib.hid (Sl.fr HSG6.out hf7 (fun k hk => HOG.out k hk))
                      clear e16 e10 e3 o16 o10 o3 hf7
                      go_wp2_with fail
                      refine (vlives_any _).mono ?_
                      rintro e w9 ⟨rfl, hf9⟩
                      have HF9 := Lib.hid (HFA.out.also ((HF7.out.setCell _ _ (.inr (by have := HBW.out; show W1.heap.size ≤ b10; omega))).also hf9))
                      clear hf9
                      go_wp2
                      go_ret
                      exact ⟨rfl, HF9.out⟩
                    · 
                      have hkd5 : a.kd = 5 := by have := HK5.out; have := HK1.out; omega
                      have hv2 : attr ⟨zs, ze, zf, zo, zsh, zpr, zmx, zin, zad, zwi⟩ p = wiA a.on (attr ⟨ys, ye, yf, yo, ysh, ypr, ymx, yin, yad, ywi⟩ p) := by rw [hv]; simp [hkd2, hkd3, hkd4, hkd5]
                      simp only [attr, wiA, Att.mk.injEq] at hv2
                      obtain ⟨m1, m2, m3, m4, m5, m6, m7, -⟩ := hv2
                      replace m1 := m1.symm; replace m2 := m2.symm; replace m3 := m3.symm; replace m4 := m4.symm; replace m5 := m5.symm; replace m6 := m6.symm; replace m7 := m7.symm
                      subst m1; subst m2; subst m3; subst m4; subst m5; subst m6; subst m7
                      have hE := eqb_refl ⟨zs, ze, yf, zo, ysh, ypr, ymx, yin, yad, a.on⟩
                      clear hv
                      go_upto_region 13 with fail
                      go_region
                      have o10 : ob ((((W6.setCell ⟨b10, 0, none⟩ (.int .i64 zs)).setCell ⟨b10, 1, none⟩ (.int .i64 ze)).setCell ⟨b10, 3, none⟩ (.int .i64 zo)).drew) b10 = some (.cells #[.int .i64 zs, .int .i64 ze, .int .i64 yf, .int .i64 zo, .bool ysh, .int .i64 ypr, .int .i64 ymx, .int .i64 yin, .int .i64 yad, .bool ywi] 28 (0, 0)) := by
                        rw [ob_drew, ob_setCell_same (ob_setCell_same (ob_setCell_same HO10.out (.int .i64 zs)) (.int .i64 ze)) (.int .i64 zo)]
                        simp
                      have hf7 : Fr (fun k => k = b10) W6 ((((W6.setCell ⟨b10, 0, none⟩ (.int .i64 zs)).setCell ⟨b10, 1, none⟩ (.int .i64 ze)).setCell ⟨b10, 3, none⟩ (.int .i64 zo)).drew) := by
                        have g1 := (Fr.refl (fun k => k = b10) W6).setCell ⟨b10, 0, none⟩ (.int .i64 zs) (.inl rfl)
                        have g2 := g1.setCell ⟨b10, 1, none⟩ (.int .i64 ze) (.inl rfl)
                        have g3 := g2.setCell ⟨b10, 3, none⟩ (.int .i64 zo) (.inl rfl)
                        exact g3.drew
                      obtain ⟨w7, hw7⟩ : ∃ w7, (((W6.setCell ⟨b10, 0, none⟩ (.int .i64 zs)).setCell ⟨b10, 1, none⟩ (.int .i64 ze)).setCell ⟨b10, 3, none⟩ (.int .i64 zo)).drew = w7 := ⟨_, rfl⟩
                      rw [hw7] at o10 hf7 ⊢
                      clear hw7
                      have o16 := hf7.keep (by omega) HO16.out
                      have o3 := hf7.keep (by have := HB10.out.1; omega) HO3.out
                      have e16 := fun i => cell_of_ob o16 i
                      have e10 := fun i => cell_of_ob o10 i
                      have e3 := fun i => cell_of_ob o3 i
                      clear u0 u1 u2 u3 u4 u5 u6 u7 u8 u9 v0 v1 v2 v3 v4 v5 v6 v7 v8 v9 r0 r1 r2 r3 r4 r5 r6 r7 r8 r9 r10 r11 r12 r13 r14 z10
                      have u0 : w7.cell? ⟨b16, 0, none⟩ = some (.int .i64 zs) := e16 0
                      have u1 : w7.cell? ⟨b16, 1, none⟩ = some (.int .i64 ze) := e16 1
                      have u2 : w7.cell? ⟨b16, 2, none⟩ = some (.int .i64 yf) := e16 2
                      have u3 : w7.cell? ⟨b16, 3, none⟩ = some (.int .i64 zo) := e16 3
                      have u4 : w7.cell? ⟨b16, 4, none⟩ = some (.bool ysh) := e16 4
                      have u5 : w7.cell? ⟨b16, 5, none⟩ = some (.int .i64 ypr) := e16 5
                      have u6 : w7.cell? ⟨b16, 6, none⟩ = some (.int .i64 ymx) := e16 6
                      have u7 : w7.cell? ⟨b16, 7, none⟩ = some (.int .i64 yin) := e16 7
                      have u8 : w7.cell? ⟨b16, 8, none⟩ = some (.int .i64 yad) := e16 8
                      have u9 : w7.cell? ⟨b16, 9, none⟩ = some (.bool a.on) := e16 9
                      have v0 : w7.cell? ⟨b10, 0, none⟩ = some (.int .i64 zs) := e10 0
                      have v1 : w7.cell? ⟨b10, 1, none⟩ = some (.int .i64 ze) := e10 1
                      have v2 : w7.cell? ⟨b10, 2, none⟩ = some (.int .i64 yf) := e10 2
                      have v3 : w7.cell? ⟨b10, 3, none⟩ = some (.int .i64 zo) := e10 3
                      have v4 : w7.cell? ⟨b10, 4, none⟩ = some (.bool ysh) := e10 4
                      have v5 : w7.cell? ⟨b10, 5, none⟩ = some (.int .i64 ypr) := e10 5
                      have v6 : w7.cell? ⟨b10, 6, none⟩ = some (.int .i64 ymx) := e10 6
                      have v7 : w7.cell? ⟨b10, 7, none⟩ = some (.int .i64 yin) := e10 7
                      have v8 : w7.cell? ⟨b10, 8, none⟩ = some (.int .i64 yad) := e10 8
                      have v9 : w7.cell? ⟨b10, 9, none⟩ = some (.bool ywi) := e10 9
                      have r0 : w7.cell? ⟨b3, 0, none⟩ = some (.int .i64 a.kd) := e3 0
                      have r1 : w7.cell? ⟨b3, 1, none⟩ = some (.int .i64 a.lo) := e3 1
                      have r2 : w7.cell? ⟨b3, 2, none⟩ = some (.int .i64 a.pg) := e3 2
                      have r3 : w7.cell? ⟨b3, 3, none⟩ = some (.int .i64 a.hw) := e3 3
                      have r4 : w7.cell? ⟨b3, 4, none⟩ = some (.int .i64 a.x.s) := e3 4
                      have r5 : w7.cell? ⟨b3, 5, none⟩ = some (.int .i64 a.x.e) := e3 5
                      have r6 : w7.cell? ⟨b3, 6, none⟩ = some (.int .i64 a.x.f) := e3 6
                      have r7 : w7.cell? ⟨b3, 7, none⟩ = some (.int .i64 a.x.o) := e3 7
                      have r8 : w7.cell? ⟨b3, 8, none⟩ = some (.bool a.x.sh) := e3 8
                      have r9 : w7.cell? ⟨b3, 9, none⟩ = some (.int .i64 a.x.pr) := e3 9
                      have r10 : w7.cell? ⟨b3, 10, none⟩ = some (.int .i64 a.x.mx) := e3 10
                      have r11 : w7.cell? ⟨b3, 11, none⟩ = some (.int .i64 a.x.inh) := e3 11
                      have r12 : w7.cell? ⟨b3, 12, none⟩ = some (.int .i64 a.x.adv) := e3 12
                      have r13 : w7.cell? ⟨b3, 13, none⟩ = some (.bool a.x.wi) := e3 13
                      have r14 : w7.cell? ⟨b3, 14, none⟩ = some (.bool a.on) := e3 14
                      have z10 := fun i => frozen_of_ob o10 i
                      have t3 := ob_lt o3
                      have t10 := ob_lt o10
                      have t16 := ob_lt o16
                      have HF7 := Lib.hid (show Fr (fun _ => False) W1 w7 from HF6.out.step hf7 (fun k hk => .inr (by have := HBW.out; omega)))
                      have HSG7 := Lib.hid (Sl.fr HSG6.out hf7 (fun k hk => HOG.out k hk))
                      clear e16 e10 e3 o16 o10 o3 hf7
                      go_wp2_with fail
                      refine (vlives_any _).mono ?_
                      rintro e w9 ⟨rfl, hf9⟩
                      have HF9 := Lib.hid (HFA.out.also ((HF7.out.setCell _ _ (.inr (by have := HBW.out; show W1.heap.size ≤ b10; omega))).also hf9))
                      clear hf9
                      go_wp2
                      go_ret
                      exact ⟨rfl, HF9.out⟩
            · have hpv := HPL.out.out (fun hc => by have := hc.2.2; omega)
              have hb : hasb = had := by rw [← HHAS.out, ← HHAD.out, pv_fok, pv_fok, hpv]
              subst hb
              cases hasb with
              | false =>
                go_upto_region 13 with fail
                go_region
                have o10 : ob ((((W6.setCell ⟨b10, 0, none⟩ (.int .i64 zs)).setCell ⟨b10, 1, none⟩ (.int .i64 ze)).setCell ⟨b10, 3, none⟩ (.int .i64 zo)).drew) b10 = some (.cells #[.int .i64 zs, .int .i64 ze, .int .i64 yf, .int .i64 zo, .bool ysh, .int .i64 ypr, .int .i64 ymx, .int .i64 yin, .int .i64 yad, .bool ywi] 28 (0, 0)) := by
                  rw [ob_drew, ob_setCell_same (ob_setCell_same (ob_setCell_same HO10.out (.int .i64 zs)) (.int .i64 ze)) (.int .i64 zo)]
                  simp
                have hf7 : Fr (fun k => k = b10) W6 ((((W6.setCell ⟨b10, 0, none⟩ (.int .i64 zs)).setCell ⟨b10, 1, none⟩ (.int .i64 ze)).setCell ⟨b10, 3, none⟩ (.int .i64 zo)).drew) := by
                  have g1 := (Fr.refl (fun k => k = b10) W6).setCell ⟨b10, 0, none⟩ (.int .i64 zs) (.inl rfl)
                  have g2 := g1.setCell ⟨b10, 1, none⟩ (.int .i64 ze) (.inl rfl)
                  have g3 := g2.setCell ⟨b10, 3, none⟩ (.int .i64 zo) (.inl rfl)
                  exact g3.drew
                obtain ⟨w7, hw7⟩ : ∃ w7, (((W6.setCell ⟨b10, 0, none⟩ (.int .i64 zs)).setCell ⟨b10, 1, none⟩ (.int .i64 ze)).setCell ⟨b10, 3, none⟩ (.int .i64 zo)).drew = w7 := ⟨_, rfl⟩
                rw [hw7] at o10 hf7 ⊢
                clear hw7
                have o16 := hf7.keep (by omega) HO16.out
                have o3 := hf7.keep (by have := HB10.out.1; omega) HO3.out
                have e16 := fun i => cell_of_ob o16 i
                have e10 := fun i => cell_of_ob o10 i
                have e3 := fun i => cell_of_ob o3 i
                clear u0 u1 u2 u3 u4 u5 u6 u7 u8 u9 v0 v1 v2 v3 v4 v5 v6 v7 v8 v9 r0 r1 r2 r3 r4 r5 r6 r7 r8 r9 r10 r11 r12 r13 r14 z10
                have u0 : w7.cell? ⟨b16, 0, none⟩ = some (.int .i64 zs) := e16 0
                have u1 : w7.cell? ⟨b16, 1, none⟩ = some (.int .i64 ze) := e16 1
                have u2 : w7.cell? ⟨b16, 2, none⟩ = some (.int .i64 zf) := e16 2
                have u3 : w7.cell? ⟨b16, 3, none⟩ = some (.int .i64 zo) := e16 3
                have u4 : w7.cell? ⟨b16, 4, none⟩ = some (.bool zsh) := e16 4
                have u5 : w7.cell? ⟨b16, 5, none⟩ = some (.int .i64 zpr) := e16 5
                have u6 : w7.cell? ⟨b16, 6, none⟩ = some (.int .i64 zmx) := e16 6
                have u7 : w7.cell? ⟨b16, 7, none⟩ = some (.int .i64 zin) := e16 7
                have u8 : w7.cell? ⟨b16, 8, none⟩ = some (.int .i64 zad) := e16 8
                have u9 : w7.cell? ⟨b16, 9, none⟩ = some (.bool zwi) := e16 9
                have v0 : w7.cell? ⟨b10, 0, none⟩ = some (.int .i64 zs) := e10 0
                have v1 : w7.cell? ⟨b10, 1, none⟩ = some (.int .i64 ze) := e10 1
                have v2 : w7.cell? ⟨b10, 2, none⟩ = some (.int .i64 yf) := e10 2
                have v3 : w7.cell? ⟨b10, 3, none⟩ = some (.int .i64 zo) := e10 3
                have v4 : w7.cell? ⟨b10, 4, none⟩ = some (.bool ysh) := e10 4
                have v5 : w7.cell? ⟨b10, 5, none⟩ = some (.int .i64 ypr) := e10 5
                have v6 : w7.cell? ⟨b10, 6, none⟩ = some (.int .i64 ymx) := e10 6
                have v7 : w7.cell? ⟨b10, 7, none⟩ = some (.int .i64 yin) := e10 7
                have v8 : w7.cell? ⟨b10, 8, none⟩ = some (.int .i64 yad) := e10 8
                have v9 : w7.cell? ⟨b10, 9, none⟩ = some (.bool ywi) := e10 9
                have r0 : w7.cell? ⟨b3, 0, none⟩ = some (.int .i64 a.kd) := e3 0
                have r1 : w7.cell? ⟨b3, 1, none⟩ = some (.int .i64 a.lo) := e3 1
                have r2 : w7.cell? ⟨b3, 2, none⟩ = some (.int .i64 a.pg) := e3 2
                have r3 : w7.cell? ⟨b3, 3, none⟩ = some (.int .i64 a.hw) := e3 3
                have r4 : w7.cell? ⟨b3, 4, none⟩ = some (.int .i64 a.x.s) := e3 4
                have r5 : w7.cell? ⟨b3, 5, none⟩ = some (.int .i64 a.x.e) := e3 5
                have r6 : w7.cell? ⟨b3, 6, none⟩ = some (.int .i64 a.x.f) := e3 6
                have r7 : w7.cell? ⟨b3, 7, none⟩ = some (.int .i64 a.x.o) := e3 7
                have r8 : w7.cell? ⟨b3, 8, none⟩ = some (.bool a.x.sh) := e3 8
                have r9 : w7.cell? ⟨b3, 9, none⟩ = some (.int .i64 a.x.pr) := e3 9
                have r10 : w7.cell? ⟨b3, 10, none⟩ = some (.int .i64 a.x.mx) := e3 10
                have r11 : w7.cell? ⟨b3, 11, none⟩ = some (.int .i64 a.x.inh) := e3 11
                have r12 : w7.cell? ⟨b3, 12, none⟩ = some (.int .i64 a.x.adv) := e3 12
                have r13 : w7.cell? ⟨b3, 13, none⟩ = some (.bool a.x.wi) := e3 13
                have r14 : w7.cell? ⟨b3, 14, none⟩ = some (.bool a.on) := e3 14
                have z10 := fun i => frozen_of_ob o10 i
                have t3 := ob_lt o3
                have t10 := ob_lt o10
                have t16 := ob_lt o16
                have HF7 := Lib.hid (show Fr (fun _ => False) W1 w7 from HF6.out.step hf7 (fun k hk => .inr (by have := HBW.out; omega)))
                have HSG7 := Lib.hid (Sl.fr HSG6.out hf7 (fun k hk => HOG.out k hk))
                clear e16 e10 e3 o16 o10 o3 hf7
                go_wp2_with fail
                refine (vlives_any _).mono ?_
                rintro e w9 ⟨rfl, hf9⟩
                have HF9 := Lib.hid (HFA.out.also (HF7.out.also hf9))
                clear hf9
                go_wp2
                go_ret
                exact ⟨rfl, HF9.out⟩
              | true =>
                have hv := (same_view (Fa := id) HHAD.out (by rw [hpv]; exact pv_at HHAD.out)).2
                rw [HZ.out, HY.out] at hv
                simp only [id, attr, Att.mk.injEq] at hv
                obtain ⟨rfl, rfl, rfl, rfl, rfl, rfl, rfl, -⟩ := hv
                have hE := eqb_refl ⟨zs, ze, zf, zo, zsh, zpr, zmx, zin, zad, zwi⟩
                clear hpv
                go_upto_region 13 with fail
                go_region
                have o10 : ob ((((W6.setCell ⟨b10, 0, none⟩ (.int .i64 zs)).setCell ⟨b10, 1, none⟩ (.int .i64 ze)).setCell ⟨b10, 3, none⟩ (.int .i64 zo)).drew) b10 = some (.cells #[.int .i64 zs, .int .i64 ze, .int .i64 zf, .int .i64 zo, .bool zsh, .int .i64 zpr, .int .i64 zmx, .int .i64 zin, .int .i64 zad, .bool zwi] 28 (0, 0)) := by
                  rw [ob_drew, ob_setCell_same (ob_setCell_same (ob_setCell_same HO10.out (.int .i64 zs)) (.int .i64 ze)) (.int .i64 zo)]
                  simp
                have hf7 : Fr (fun k => k = b10) W6 ((((W6.setCell ⟨b10, 0, none⟩ (.int .i64 zs)).setCell ⟨b10, 1, none⟩ (.int .i64 ze)).setCell ⟨b10, 3, none⟩ (.int .i64 zo)).drew) := by
                  have g1 := (Fr.refl (fun k => k = b10) W6).setCell ⟨b10, 0, none⟩ (.int .i64 zs) (.inl rfl)
                  have g2 := g1.setCell ⟨b10, 1, none⟩ (.int .i64 ze) (.inl rfl)
                  have g3 := g2.setCell ⟨b10, 3, none⟩ (.int .i64 zo) (.inl rfl)
                  exact g3.drew
                obtain ⟨w7, hw7⟩ : ∃ w7, (((W6.setCell ⟨b10, 0, none⟩ (.int .i64 zs)).setCell ⟨b10, 1, none⟩ (.int .i64 ze)).setCell ⟨b10, 3, none⟩ (.int .i64 zo)).drew = w7 := ⟨_, rfl⟩
                rw [hw7] at o10 hf7 ⊢
                clear hw7
                have o16 := hf7.keep (by omega) HO16.out
                have o3 := hf7.keep (by have := HB10.out.1; omega) HO3.out
                have e16 := fun i => cell_of_ob o16 i
                have e10 := fun i => cell_of_ob o10 i
                have e3 := fun i => cell_of_ob o3 i
                clear u0 u1 u2 u3 u4 u5 u6 u7 u8 u9 v0 v1 v2 v3 v4 v5 v6 v7 v8 v9 r0 r1 r2 r3 r4 r5 r6 r7 r8 r9 r10 r11 r12 r13 r14 z10
                have u0 : w7.cell? ⟨b16, 0, none⟩ = some (.int .i64 zs) := e16 0
                have u1 : w7.cell? ⟨b16, 1, none⟩ = some (.int .i64 ze) := e16 1
                have u2 : w7.cell? ⟨b16, 2, none⟩ = some (.int .i64 zf) := e16 2
                have u3 : w7.cell? ⟨b16, 3, none⟩ = some (.int .i64 zo) := e16 3
                have u4 : w7.cell? ⟨b16, 4, none⟩ = some (.bool zsh) := e16 4
                have u5 : w7.cell? ⟨b16, 5, none⟩ = some (.int .i64 zpr) := e16 5
                have u6 : w7.cell? ⟨b16, 6, none⟩ = some (.int .i64 zmx) := e16 6
                have u7 : w7.cell? ⟨b16, 7, none⟩ = some (.int .i64 zin) := e16 7
                have u8 : w7.cell? ⟨b16, 8, none⟩ = some (.int .i64 zad) := e16 8
                have u9 : w7.cell? ⟨b16, 9, none⟩ = some (.bool zwi) := e16 9
                have v0 : w7.cell? ⟨b10, 0, none⟩ = some (.int .i64 zs) := e10 0
                have v1 : w7.cell? ⟨b10, 1, none⟩ = some (.int .i64 ze) := e10 1
                have v2 : w7.cell? ⟨b10, 2, none⟩ = some (.int .i64 zf) := e10 2
                have v3 : w7.cell? ⟨b10, 3, none⟩ = some (.int .i64 zo) := e10 3
                have v4 : w7.cell? ⟨b10, 4, none⟩ = some (.bool zsh) := e10 4
                have v5 : w7.cell? ⟨b10, 5, none⟩ = some (.int .i64 zpr) := e10 5
                have v6 : w7.cell? ⟨b10, 6, none⟩ = some (.int .i64 zmx) := e10 6
                have v7 : w7.cell? ⟨b10, 7, none⟩ = some (.int .i64 zin) := e10 7
                have v8 : w7.cell? ⟨b10, 8, none⟩ = some (.int .i64 zad) := e10 8
                have v9 : w7.cell? ⟨b10, 9, none⟩ = some (.bool zwi) := e10 9
                have r0 : w7.cell? ⟨b3, 0, none⟩ = some (.int .i64 a.kd) := e3 0
                have r1 : w7.cell? ⟨b3, 1, none⟩ = some (.int .i64 a.lo) := e3 1
                have r2 : w7.cell? ⟨b3, 2, none⟩ = some (.int .i64 a.pg) := e3 2
                have r3 : w7.cell? ⟨b3, 3, none⟩ = some (.int .i64 a.hw) := e3 3
                have r4 : w7.cell? ⟨b3, 4, none⟩ = some (.int .i64 a.x.s) := e3 4
                have r5 : w7.cell? ⟨b3, 5, none⟩ = some (.int .i64 a.x.e) := e3 5
                have r6 : w7.cell? ⟨b3, 6, none⟩ = some (.int .i64 a.x.f) := e3 6
                have r7 : w7.cell? ⟨b3, 7, none⟩ = some (.int .i64 a.x.o) := e3 7
                have r8 : w7.cell? ⟨b3, 8, none⟩ = some (.bool a.x.sh) := e3 8
                have r9 : w7.cell? ⟨b3, 9, none⟩ = some (.int .i64 a.x.pr) := e3 9
                have r10 : w7.cell? ⟨b3, 10, none⟩ = some (.int .i64 a.x.mx) := e3 10
                have r11 : w7.cell? ⟨b3, 11, none⟩ = some (.int .i64 a.x.inh) := e3 11
                have r12 : w7.cell? ⟨b3, 12, none⟩ = some (.int .i64 a.x.adv) := e3 12
                have r13 : w7.cell? ⟨b3, 13, none⟩ = some (.bool a.x.wi) := e3 13
                have r14 : w7.cell? ⟨b3, 14, none⟩ = some (.bool a.on) := e3 14
                have z10 := fun i => frozen_of_ob o10 i
                have t3 := ob_lt o3
                have t10 := ob_lt o10
                have t16 := ob_lt o16
                have HF7 := Lib.hid (show Fr (fun _ => False) W1 w7 from HF6.out.step hf7 (fun k hk => .inr (by have := HBW.out; omega)))
                have HSG7 := Lib.hid (Sl.fr HSG6.out hf7 (fun k hk => HOG.out k hk))
                clear e16 e10 e3 o16 o10 o3 hf7
                go_wp2_with fail
                refine (vlives_any _).mono ?_
                rintro e w9 ⟨rfl, hf9⟩
                have HF9 := Lib.hid (HFA.out.also (HF7.out.also hf9))
                clear hf9
                go_wp2
                go_ret
                exact ⟨rfl, HF9.out⟩
          · have hpv := HPL.out.out (fun hc => h1 hc.2.1)
            have hb : hasb = had := by rw [← HHAS.out, ← HHAD.out, pv_fok, pv_fok, hpv]
            subst hb
            cases hasb with
            | false =>
              go_upto_region 13 with fail
              go_region
              have o10 : ob ((((W6.setCell ⟨b10, 0, none⟩ (.int .i64 zs)).setCell ⟨b10, 1, none⟩ (.int .i64 ze)).setCell ⟨b10, 3, none⟩ (.int .i64 zo)).drew) b10 = some (.cells #[.int .i64 zs, .int .i64 ze, .int .i64 yf, .int .i64 zo, .bool ysh, .int .i64 ypr, .int .i64 ymx, .int .i64 yin, .int .i64 yad, .bool ywi] 28 (0, 0)) := by
                rw [ob_drew, ob_setCell_same (ob_setCell_same (ob_setCell_same HO10.out (.int .i64 zs)) (.int .i64 ze)) (.int .i64 zo)]
                simp
              have hf7 : Fr (fun k => k = b10) W6 ((((W6.setCell ⟨b10, 0, none⟩ (.int .i64 zs)).setCell ⟨b10, 1, none⟩ (.int .i64 ze)).setCell ⟨b10, 3, none⟩ (.int .i64 zo)).drew) := by
                have g1 := (Fr.refl (fun k => k = b10) W6).setCell ⟨b10, 0, none⟩ (.int .i64 zs) (.inl rfl)
                have g2 := g1.setCell ⟨b10, 1, none⟩ (.int .i64 ze) (.inl rfl)
                have g3 := g2.setCell ⟨b10, 3, none⟩ (.int .i64 zo) (.inl rfl)
                exact g3.drew
              obtain ⟨w7, hw7⟩ : ∃ w7, (((W6.setCell ⟨b10, 0, none⟩ (.int .i64 zs)).setCell ⟨b10, 1, none⟩ (.int .i64 ze)).setCell ⟨b10, 3, none⟩ (.int .i64 zo)).drew = w7 := ⟨_, rfl⟩
              rw [hw7] at o10 hf7 ⊢
              clear hw7
              have o16 := hf7.keep (by omega) HO16.out
              have o3 := hf7.keep (by have := HB10.out.1; omega) HO3.out
              have e16 := fun i => cell_of_ob o16 i
              have e10 := fun i => cell_of_ob o10 i
              have e3 := fun i => cell_of_ob o3 i
              clear u0 u1 u2 u3 u4 u5 u6 u7 u8 u9 v0 v1 v2 v3 v4 v5 v6 v7 v8 v9 r0 r1 r2 r3 r4 r5 r6 r7 r8 r9 r10 r11 r12 r13 r14 z10
              have u0 : w7.cell? ⟨b16, 0, none⟩ = some (.int .i64 zs) := e16 0
              have u1 : w7.cell? ⟨b16, 1, none⟩ = some (.int .i64 ze) := e16 1
              have u2 : w7.cell? ⟨b16, 2, none⟩ = some (.int .i64 zf) := e16 2
              have u3 : w7.cell? ⟨b16, 3, none⟩ = some (.int .i64 zo) := e16 3
              have u4 : w7.cell? ⟨b16, 4, none⟩ = some (.bool zsh) := e16 4
              have u5 : w7.cell? ⟨b16, 5, none⟩ = some (.int .i64 zpr) := e16 5
              have u6 : w7.cell? ⟨b16, 6, none⟩ = some (.int .i64 zmx) := e16 6
              have u7 : w7.cell? ⟨b16, 7, none⟩ = some (.int .i64 zin) := e16 7
              have u8 : w7.cell? ⟨b16, 8, none⟩ = some (.int .i64 zad) := e16 8
              have u9 : w7.cell? ⟨b16, 9, none⟩ = some (.bool zwi) := e16 9
              have v0 : w7.cell? ⟨b10, 0, none⟩ = some (.int .i64 zs) := e10 0
              have v1 : w7.cell? ⟨b10, 1, none⟩ = some (.int .i64 ze) := e10 1
              have v2 : w7.cell? ⟨b10, 2, none⟩ = some (.int .i64 yf) := e10 2
              have v3 : w7.cell? ⟨b10, 3, none⟩ = some (.int .i64 zo) := e10 3
              have v4 : w7.cell? ⟨b10, 4, none⟩ = some (.bool ysh) := e10 4
              have v5 : w7.cell? ⟨b10, 5, none⟩ = some (.int .i64 ypr) := e10 5
              have v6 : w7.cell? ⟨b10, 6, none⟩ = some (.int .i64 ymx) := e10 6
              have v7 : w7.cell? ⟨b10, 7, none⟩ = some (.int .i64 yin) := e10 7
              have v8 : w7.cell? ⟨b10, 8, none⟩ = some (.int .i64 yad) := e10 8
              have v9 : w7.cell? ⟨b10, 9, none⟩ = some (.bool ywi) := e10 9
              have r0 : w7.cell? ⟨b3, 0, none⟩ = some (.int .i64 a.kd) := e3 0
              have r1 : w7.cell? ⟨b3, 1, none⟩ = some (.int .i64 a.lo) := e3 1
              have r2 : w7.cell? ⟨b3, 2, none⟩ = some (.int .i64 a.pg) := e3 2
              have r3 : w7.cell? ⟨b3, 3, none⟩ = some (.int .i64 a.hw) := e3 3
              have r4 : w7.cell? ⟨b3, 4, none⟩ = some (.int .i64 a.x.s) := e3 4
              have r5 : w7.cell? ⟨b3, 5, none⟩ = some (.int .i64 a.x.e) := e3 5
              have r6 : w7.cell? ⟨b3, 6, none⟩ = some (.int .i64 a.x.f) := e3 6
              have r7 : w7.cell? ⟨b3, 7, none⟩ = some (.int .i64 a.x.o) := e3 7
              have r8 : w7.cell? ⟨b3, 8, none⟩ = some (.bool a.x.sh) := e3 8
              have r9 : w7.cell? ⟨b3, 9, none⟩ = some (.int .i64 a.x.pr) := e3 9
              have r10 : w7.cell? ⟨b3, 10, none⟩ = some (.int .i64 a.x.mx) := e3 10
              have r11 : w7.cell? ⟨b3, 11, none⟩ = some (.int .i64 a.x.inh) := e3 11
              have r12 : w7.cell? ⟨b3, 12, none⟩ = some (.int .i64 a.x.adv) := e3 12
              have r13 : w7.cell? ⟨b3, 13, none⟩ = some (.bool a.x.wi) := e3 13
              have r14 : w7.cell? ⟨b3, 14, none⟩ = some (.bool a.on) := e3 14
              have z10 := fun i => frozen_of_ob o10 i
              have t3 := ob_lt o3
              have t10 := ob_lt o10
              have t16 := ob_lt o16
              have HF7 := Lib.hid (show Fr (fun _ => False) W1 w7 from HF6.out.step hf7 (fun k hk => .inr (by have := HBW.out; omega)))
              have HSG7 := Lib.hid (Sl.fr HSG6.out hf7 (fun k hk => HOG.out k hk))
              clear e16 e10 e3 o16 o10 o3 hf7
              go_wp2_with fail
              refine (vlives_any _).mono ?_
              rintro e w9 ⟨rfl, hf9⟩
              have HF9 := Lib.hid (HFA.out.also (HF7.out.also hf9))
              clear hf9
              go_wp2
              go_ret
              exact ⟨rfl, HF9.out⟩
            | true =>
              have hv := (same_view (Fa := id) HHAD.out (by rw [hpv]; exact pv_at HHAD.out)).2
              rw [HZ.out, HY.out] at hv
              simp only [id, attr, Att.mk.injEq] at hv
              obtain ⟨rfl, rfl, rfl, rfl, rfl, rfl, rfl, -⟩ := hv
              have hE := eqb_refl ⟨zs, ze, zf, zo, zsh, zpr, zmx, zin, zad, zwi⟩
              clear hpv
              go_upto_region 13 with fail
              go_region
              have o10 : ob ((((W6.setCell ⟨b10, 0, none⟩ (.int .i64 zs)).setCell ⟨b10, 1, none⟩ (.int .i64 ze)).setCell ⟨b10, 3, none⟩ (.int .i64 zo)).drew) b10 = some (.cells #[.int .i64 zs, .int .i64 ze, .int .i64 zf, .int .i64 zo, .bool zsh, .int .i64 zpr, .int .i64 zmx, .int .i64 zin, .int .i64 zad, .bool zwi] 28 (0, 0)) := by
                rw [ob_drew, ob_setCell_same (ob_setCell_same (ob_setCell_same HO10.out (.int .i64 zs)) (.int .i64 ze)) (.int .i64 zo)]
                simp
              have hf7 : Fr (fun k => k = b10) W6 ((((W6.setCell ⟨b10, 0, none⟩ (.int .i64 zs)).setCell ⟨b10, 1, none⟩ (.int .i64 ze)).setCell ⟨b10, 3, none⟩ (.int .i64 zo)).drew) := by
                have g1 := (Fr.refl (fun k => k = b10) W6).setCell ⟨b10, 0, none⟩ (.int .i64 zs) (.inl rfl)
                have g2 := g1.setCell ⟨b10, 1, none⟩ (.int .i64 ze) (.inl rfl)
                have g3 := g2.setCell ⟨b10, 3, none⟩ (.int .i64 zo) (.inl rfl)
                exact g3.drew
              obtain ⟨w7, hw7⟩ : ∃ w7, (((W6.setCell ⟨b10, 0, none⟩ (.int .i64 zs)).setCell ⟨b10, 1, none⟩ (.int .i64 ze)).setCell ⟨b10, 3, none⟩ (.int .i64 zo)).drew = w7 := ⟨_, rfl⟩
              rw [hw7] at o10 hf7 ⊢
              clear hw7
              have o16 := hf7.keep (by omega) HO16.out
              have o3 := hf7.keep (by have := HB10.out.1; omega) HO3.out
              have e16 := fun i => cell_of_ob o16 i
              have e10 := fun i => cell_of_ob o10 i
              have e3 := fun i => cell_of_ob o3 i
              clear u0 u1 u2 u3 u4 u5 u6 u7 u8 u9 v0 v1 v2 v3 v4 v5 v6 v7 v8 v9 r0 r1 r2 r3 r4 r5 r6 r7 r8 r9 r10 r11 r12 r13 r14 z10
              have u0 : w7.cell? ⟨b16, 0, none⟩ = some (.int .i64 zs) := e16 0
              have u1 : w7.cell? ⟨b16, 1, none⟩ = some (.int .i64 ze) := e16 1
              have u2 : w7.cell? ⟨b16, 2, none⟩ = some (.int .i64 zf) := e16 2
              have u3 : w7.cell? ⟨b16, 3, none⟩ = some (.int .i64 zo) := e16 3
              have u4 : w7.cell? ⟨b16, 4, none⟩ = some (.bool zsh) := e16 4
              have u5 : w7.cell? ⟨b16, 5, none⟩ = some (.int .i64 zpr) := e16 5
              have u6 : w7.cell? ⟨b16, 6, none⟩ = some (.int .i64 zmx) := e16 6
              have u7 : w7.cell? ⟨b16, 7, none⟩ = some (.int .i64 zin) := e16 7
              have u8 : w7.cell? ⟨b16, 8, none⟩ = some (.int .i64 zad) := e16 8
              have u9 : w7.cell? ⟨b16, 9, none⟩ = some (.bool zwi) := e16 9
              have v0 : w7.cell? ⟨b10, 0, none⟩ = some (.int .i64 zs) := e10 0
              have v1 : w7.cell? ⟨b10, 1, none⟩ = some (.int .i64 ze) := e10 1
              have v2 : w7.cell? ⟨b10, 2, none⟩ = some (.int .i64 zf) := e10 2
              have v3 : w7.cell? ⟨b10, 3, none⟩ = some (.int .i64 zo) := e10 3
              have v4 : w7.cell? ⟨b10, 4, none⟩ = some (.bool zsh) := e10 4
              have v5 : w7.cell? ⟨b10, 5, none⟩ = some (.int .i64 zpr) := e10 5
              have v6 : w7.cell? ⟨b10, 6, none⟩ = some (.int .i64 zmx) := e10 6
              have v7 : w7.cell? ⟨b10, 7, none⟩ = some (.int .i64 zin) := e10 7
              have v8 : w7.cell? ⟨b10, 8, none⟩ = some (.int .i64 zad) := e10 8
              have v9 : w7.cell? ⟨b10, 9, none⟩ = some (.bool zwi) := e10 9
              have r0 : w7.cell? ⟨b3, 0, none⟩ = some (.int .i64 a.kd) := e3 0
              have r1 : w7.cell? ⟨b3, 1, none⟩ = some (.int .i64 a.lo) := e3 1
              have r2 : w7.cell? ⟨b3, 2, none⟩ = some (.int .i64 a.pg) := e3 2
              have r3 : w7.cell? ⟨b3, 3, none⟩ = some (.int .i64 a.hw) := e3 3
              have r4 : w7.cell? ⟨b3, 4, none⟩ = some (.int .i64 a.x.s) := e3 4
              have r5 : w7.cell? ⟨b3, 5, none⟩ = some (.int .i64 a.x.e) := e3 5
              have r6 : w7.cell? ⟨b3, 6, none⟩ = some (.int .i64 a.x.f) := e3 6
              have r7 : w7.cell? ⟨b3, 7, none⟩ = some (.int .i64 a.x.o) := e3 7
              have r8 : w7.cell? ⟨b3, 8, none⟩ = some (.bool a.x.sh) := e3 8
              have r9 : w7.cell? ⟨b3, 9, none⟩ = some (.int .i64 a.x.pr) := e3 9
              have r10 : w7.cell? ⟨b3, 10, none⟩ = some (.int .i64 a.x.mx) := e3 10
              have r11 : w7.cell? ⟨b3, 11, none⟩ = some (.int .i64 a.x.inh) := e3 11
              have r12 : w7.cell? ⟨b3, 12, none⟩ = some (.int .i64 a.x.adv) := e3 12
              have r13 : w7.cell? ⟨b3, 13, none⟩ = some (.bool a.x.wi) := e3 13
              have r14 : w7.cell? ⟨b3, 14, none⟩ = some (.bool a.on) := e3 14
              have z10 := fun i => frozen_of_ob o10 i
              have t3 := ob_lt o3
              have t10 := ob_lt o10
              have t16 := ob_lt o16
              have HF7 := Lib.hid (show Fr (fun _ => False) W1 w7 from HF6.out.step hf7 (fun k hk => .inr (by have := HBW.out; omega)))
              have HSG7 := Lib.hid (Sl.fr HSG6.out hf7 (fun k hk => HOG.out k hk))
              clear e16 e10 e3 o16 o10 o3 hf7
              go_wp2_with fail
              refine (vlives_any _).mono ?_
              rintro e w9 ⟨rfl, hf9⟩
              have HF9 := Lib.hid (HFA.out.also (HF7.out.also hf9))
              clear hf9
              go_wp2
              go_ret
              exact ⟨rfl, HF9.out⟩
        · have hpv := HPL.out.out (fun hc => he hc.1)
          have hb : hasb = had := by rw [← HHAS.out, ← HHAD.out, pv_fok, pv_fok, hpv]
          subst hb
          cases hasb with
          | false =>
            go_upto_region 13 with fail
            go_region
            have o10 : ob ((((W6.setCell ⟨b10, 0, none⟩ (.int .i64 zs)).setCell ⟨b10, 1, none⟩ (.int .i64 ze)).setCell ⟨b10, 3, none⟩ (.int .i64 zo)).drew) b10 = some (.cells #[.int .i64 zs, .int .i64 ze, .int .i64 yf, .int .i64 zo, .bool ysh, .int .i64 ypr, .int .i64 ymx, .int .i64 yin, .int .i64 yad, .bool ywi] 28 (0, 0)) := by
              rw [ob_drew, ob_setCell_same (ob_setCell_same (ob_setCell_same HO10.out (.int .i64 zs)) (.int .i64 ze)) (.int .i64 zo)]
              simp
            have hf7 : Fr (fun k => k = b10) W6 ((((W6.setCell ⟨b10, 0, none⟩ (.int .i64 zs)).setCell ⟨b10, 1, none⟩ (.int .i64 ze)).setCell ⟨b10, 3, none⟩ (.int .i64 zo)).drew) := by
              have g1 := (Fr.refl (fun k => k = b10) W6).setCell ⟨b10, 0, none⟩ (.int .i64 zs) (.inl rfl)
              have g2 := g1.setCell ⟨b10, 1, none⟩ (.int .i64 ze) (.inl rfl)
              have g3 := g2.setCell ⟨b10, 3, none⟩ (.int .i64 zo) (.inl rfl)
              exact g3.drew
            obtain ⟨w7, hw7⟩ : ∃ w7, (((W6.setCell ⟨b10, 0, none⟩ (.int .i64 zs)).setCell ⟨b10, 1, none⟩ (.int .i64 ze)).setCell ⟨b10, 3, none⟩ (.int .i64 zo)).drew = w7 := ⟨_, rfl⟩
            rw [hw7] at o10 hf7 ⊢
            clear hw7
            have o16 := hf7.keep (by omega) HO16.out
            have o3 := hf7.keep (by have := HB10.out.1; omega) HO3.out
            have e16 := fun i => cell_of_ob o16 i
            have e10 := fun i => cell_of_ob o10 i
            have e3 := fun i => cell_of_ob o3 i
            clear u0 u1 u2 u3 u4 u5 u6 u7 u8 u9 v0 v1 v2 v3 v4 v5 v6 v7 v8 v9 r0 r1 r2 r3 r4 r5 r6 r7 r8 r9 r10 r11 r12 r13 r14 z10
            have u0 : w7.cell? ⟨b16, 0, none⟩ = some (.int .i64 zs) := e16 0
            have u1 : w7.cell? ⟨b16, 1, none⟩ = some (.int .i64 ze) := e16 1
            have u2 : w7.cell? ⟨b16, 2, none⟩ = some (.int .i64 zf) := e16 2
            have u3 : w7.cell? ⟨b16, 3, none⟩ = some (.int .i64 zo) := e16 3
            have u4 : w7.cell? ⟨b16, 4, none⟩ = some (.bool zsh) := e16 4
            have u5 : w7.cell? ⟨b16, 5, none⟩ = some (.int .i64 zpr) := e16 5
            have u6 : w7.cell? ⟨b16, 6, none⟩ = some (.int .i64 zmx) := e16 6
            have u7 : w7.cell? ⟨b16, 7, none⟩ = some (.int .i64 zin) := e16 7
            have u8 : w7.cell? ⟨b16, 8, none⟩ = some (.int .i64 zad) := e16 8
            have u9 : w7.cell? ⟨b16, 9, none⟩ = some (.bool zwi) := e16 9
            have v0 : w7.cell? ⟨b10, 0, none⟩ = some (.int .i64 zs) := e10 0
            have v1 : w7.cell? ⟨b10, 1, none⟩ = some (.int .i64 ze) := e10 1
            have v2 : w7.cell? ⟨b10, 2, none⟩ = some (.int .i64 yf) := e10 2
            have v3 : w7.cell? ⟨b10, 3, none⟩ = some (.int .i64 zo) := e10 3
            have v4 : w7.cell? ⟨b10, 4, none⟩ = some (.bool ysh) := e10 4
            have v5 : w7.cell? ⟨b10, 5, none⟩ = some (.int .i64 ypr) := e10 5
            have v6 : w7.cell? ⟨b10, 6, none⟩ = some (.int .i64 ymx) := e10 6
            have v7 : w7.cell? ⟨b10, 7, none⟩ = some (.int .i64 yin) := e10 7
            have v8 : w7.cell? ⟨b10, 8, none⟩ = some (.int .i64 yad) := e10 8
            have v9 : w7.cell? ⟨b10, 9, none⟩ = some (.bool ywi) := e10 9
            have r0 : w7.cell? ⟨b3, 0, none⟩ = some (.int .i64 a.kd) := e3 0
            have r1 : w7.cell? ⟨b3, 1, none⟩ = some (.int .i64 a.lo) := e3 1
            have r2 : w7.cell? ⟨b3, 2, none⟩ = some (.int .i64 a.pg) := e3 2
            have r3 : w7.cell? ⟨b3, 3, none⟩ = some (.int .i64 a.hw) := e3 3
            have r4 : w7.cell? ⟨b3, 4, none⟩ = some (.int .i64 a.x.s) := e3 4
            have r5 : w7.cell? ⟨b3, 5, none⟩ = some (.int .i64 a.x.e) := e3 5
            have r6 : w7.cell? ⟨b3, 6, none⟩ = some (.int .i64 a.x.f) := e3 6
            have r7 : w7.cell? ⟨b3, 7, none⟩ = some (.int .i64 a.x.o) := e3 7
            have r8 : w7.cell? ⟨b3, 8, none⟩ = some (.bool a.x.sh) := e3 8
            have r9 : w7.cell? ⟨b3, 9, none⟩ = some (.int .i64 a.x.pr) := e3 9
            have r10 : w7.cell? ⟨b3, 10, none⟩ = some (.int .i64 a.x.mx) := e3 10
            have r11 : w7.cell? ⟨b3, 11, none⟩ = some (.int .i64 a.x.inh) := e3 11
            have r12 : w7.cell? ⟨b3, 12, none⟩ = some (.int .i64 a.x.adv) := e3 12
            have r13 : w7.cell? ⟨b3, 13, none⟩ = some (.bool a.x.wi) := e3 13
            have r14 : w7.cell? ⟨b3, 14, none⟩ = some (.bool a.on) := e3 14
            have z10 := fun i => frozen_of_ob o10 i
            have t3 := ob_lt o3
            have t10 := ob_lt o10
            have t16 := ob_lt o16
            have HF7 := Lib.hid (show Fr (fun _ => False) W1 w7 from HF6.out.step hf7 (fun k hk => .inr (by have := HBW.out; omega)))
            have HSG7 := Lib.hid (Sl.fr HSG6.out hf7 (fun k hk => HOG.out k hk))
            clear e16 e10 e3 o16 o10 o3 hf7
            go_wp2_with fail
            refine (vlives_any _).mono ?_
            rintro e w9 ⟨rfl, hf9⟩
            have HF9 := Lib.hid (HFA.out.also (HF7.out.also hf9))
            clear hf9
            go_wp2
            go_ret
            exact ⟨rfl, HF9.out⟩
          | true =>
            have hv := (same_view (Fa := id) HHAD.out (by rw [hpv]; exact pv_at HHAD.out)).2
            rw [HZ.out, HY.out] at hv
            simp only [id, attr, Att.mk.injEq] at hv
            obtain ⟨rfl, rfl, rfl, rfl, rfl, rfl, rfl, -⟩ := hv
            have hE := eqb_refl ⟨zs, ze, zf, zo, zsh, zpr, zmx, zin, zad, zwi⟩
            clear hpv
            go_upto_region 13 with fail
            go_region
            have o10 : ob ((((W6.setCell ⟨b10, 0, none⟩ (.int .i64 zs)).setCell ⟨b10, 1, none⟩ (.int .i64 ze)).setCell ⟨b10, 3, none⟩ (.int .i64 zo)).drew) b10 = some (.cells #[.int .i64 zs, .int .i64 ze, .int .i64 zf, .int .i64 zo, .bool zsh, .int .i64 zpr, .int .i64 zmx, .int .i64 zin, .int .i64 zad, .bool zwi] 28 (0, 0)) := by
              rw [ob_drew, ob_setCell_same (ob_setCell_same (ob_setCell_same HO10.out (.int .i64 zs)) (.int .i64 ze)) (.int .i64 zo)]
              simp
            have hf7 : Fr (fun k => k = b10) W6 ((((W6.setCell ⟨b10, 0, none⟩ (.int .i64 zs)).setCell ⟨b10, 1, none⟩ (.int .i64 ze)).setCell ⟨b10, 3, none⟩ (.int .i64 zo)).drew) := by
              have g1 := (Fr.refl (fun k => k = b10) W6).setCell ⟨b10, 0, none⟩ (.int .i64 zs) (.inl rfl)
              have g2 := g1.setCell ⟨b10, 1, none⟩ (.int .i64 ze) (.inl rfl)
              have g3 := g2.setCell ⟨b10, 3, none⟩ (.int .i64 zo) (.inl rfl)
              exact g3.drew
            obtain ⟨w7, hw7⟩ : ∃ w7, (((W6.setCell ⟨b10, 0, none⟩ (.int .i64 zs)).setCell ⟨b10, 1, none⟩ (.int .i64 ze)).setCell ⟨b10, 3, none⟩ (.int .i64 zo)).drew = w7 := ⟨_, rfl⟩
            rw [hw7] at o10 hf7 ⊢
            clear hw7
            have o16 := hf7.keep (by omega) HO16.out
            have o3 := hf7.keep (by have := HB10.out.1; omega) HO3.out
            have e16 := fun i => cell_of_ob o16 i
            have e10 := fun i => cell_of_ob o10 i
            have e3 := fun i => cell_of_ob o3 i
            clear u0 u1 u2 u3 u4 u5 u6 u7 u8 u9 v0 v1 v2 v3 v4 v5 v6 v7 v8 v9 r0 r1 r2 r3 r4 r5 r6 r7 r8 r9 r10 r11 r12 r13 r14 z10
            have u0 : w7.cell? ⟨b16, 0, none⟩ = some (.int .i64 zs) := e16 0
            have u1 : w7.cell? ⟨b16, 1, none⟩ = some (.int .i64 ze) := e16 1
            have u2 : w7.cell? ⟨b16, 2, none⟩ = some (.int .i64 zf) := e16 2
            have u3 : w7.cell? ⟨b16, 3, none⟩ = some (.int .i64 zo) := e16 3
            have u4 : w7.cell? ⟨b16, 4, none⟩ = some (.bool zsh) := e16 4
            have u5 : w7.cell? ⟨b16, 5, none⟩ = some (.int .i64 zpr) := e16 5
            have u6 : w7.cell? ⟨b16, 6, none⟩ = some (.int .i64 zmx) := e16 6
            have u7 : w7.cell? ⟨b16, 7, none⟩ = some (.int .i64 zin) := e16 7
            have u8 : w7.cell? ⟨b16, 8, none⟩ = some (.int .i64 zad) := e16 8
            have u9 : w7.cell? ⟨b16, 9, none⟩ = some (.bool zwi) := e16 9
            have v0 : w7.cell? ⟨b10, 0, none⟩ = some (.int .i64 zs) := e10 0
            have v1 : w7.cell? ⟨b10, 1, none⟩ = some (.int .i64 ze) := e10 1
            have v2 : w7.cell? ⟨b10, 2, none⟩ = some (.int .i64 zf) := e10 2
            have v3 : w7.cell? ⟨b10, 3, none⟩ = some (.int .i64 zo) := e10 3
            have v4 : w7.cell? ⟨b10, 4, none⟩ = some (.bool zsh) := e10 4
            have v5 : w7.cell? ⟨b10, 5, none⟩ = some (.int .i64 zpr) := e10 5
            have v6 : w7.cell? ⟨b10, 6, none⟩ = some (.int .i64 zmx) := e10 6
            have v7 : w7.cell? ⟨b10, 7, none⟩ = some (.int .i64 zin) := e10 7
            have v8 : w7.cell? ⟨b10, 8, none⟩ = some (.int .i64 zad) := e10 8
            have v9 : w7.cell? ⟨b10, 9, none⟩ = some (.bool zwi) := e10 9
            have r0 : w7.cell? ⟨b3, 0, none⟩ = some (.int .i64 a.kd) := e3 0
            have r1 : w7.cell? ⟨b3, 1, none⟩ = some (.int .i64 a.lo) := e3 1
            have r2 : w7.cell? ⟨b3, 2, none⟩ = some (.int .i64 a.pg) := e3 2
            have r3 : w7.cell? ⟨b3, 3, none⟩ = some (.int .i64 a.hw) := e3 3
            have r4 : w7.cell? ⟨b3, 4, none⟩ = some (.int .i64 a.x.s) := e3 4
            have r5 : w7.cell? ⟨b3, 5, none⟩ = some (.int .i64 a.x.e) := e3 5
            have r6 : w7.cell? ⟨b3, 6, none⟩ = some (.int .i64 a.x.f) := e3 6
            have r7 : w7.cell? ⟨b3, 7, none⟩ = some (.int .i64 a.x.o) := e3 7
            have r8 : w7.cell? ⟨b3, 8, none⟩ = some (.bool a.x.sh) := e3 8
            have r9 : w7.cell? ⟨b3, 9, none⟩ = some (.int .i64 a.x.pr) := e3 9
            have r10 : w7.cell? ⟨b3, 10, none⟩ = some (.int .i64 a.x.mx) := e3 10
            have r11 : w7.cell? ⟨b3, 11, none⟩ = some (.int .i64 a.x.inh) := e3 11
            have r12 : w7.cell? ⟨b3, 12, none⟩ = some (.int .i64 a.x.adv) := e3 12
            have r13 : w7.cell? ⟨b3, 13, none⟩ = some (.bool a.x.wi) := e3 13
            have r14 : w7.cell? ⟨b3, 14, none⟩ = some (.bool a.on) := e3 14
            have z10 := fun i => frozen_of_ob o10 i
            have t3 := ob_lt o3
            have t10 := ob_lt o10
            have t16 := ob_lt o16
            have HF7 := Lib.hid (show Fr (fun _ => False) W1 w7 from HF6.out.step hf7 (fun k hk => .inr (by have := HBW.out; omega)))
            have HSG7 := Lib.hid (Sl.fr HSG6.out hf7 (fun k hk => HOG.out k hk))
            clear e16 e10 e3 o16 o10 o3 hf7
            go_wp2_with fail
            refine (vlives_any _).mono ?_
            rintro e w9 ⟨rfl, hf9⟩
            have HF9 := Lib.hid (HFA.out.also (HF7.out.also hf9))
            clear hf9
            go_wp2
            go_ret
            exact ⟨rfl, HF9.out⟩
end Go.Proofs.Ytopglbkcciigbaa
