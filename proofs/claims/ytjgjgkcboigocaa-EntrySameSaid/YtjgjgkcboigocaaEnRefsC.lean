/- pantryref15.Cut and Insert. Conditions: a right list of at most 400 entries. -/
import Derived.Test.YtjgjgkcboigocaaEnRefsB
namespace Go.Proofs.Ytjgjgkcboigocaa
open Go.RowKit
set_option linter.unusedSimpArgs false
set_option linter.unusedVariables false
theorem own_app {w3 : World} {v v2 : Value} {W wr : World} {m : Value} (hf2 : Fr (fun _ => False) wr W) (ho2 : v2.ownBlock = v.ownBlock ∨ ∃ k, v2.ownBlock = some k ∧ W.heap.size ≤ k) (hm : ∀ k, m.ownBlock = some k → k < wr.heap.size) (hd : ∀ k, m.ownBlock = some k → v.ownBlock = some k → False) :
    ∀ k, m.ownBlock = some k → v2.ownBlock = some k → False := fun k hk hv => by
  rcases ho2 with h | ⟨r, h, hr⟩
  · exact hd k hk (h ▸ hv)
  · rw [h] at hv; cases hv
    have := hm k hk
    have := hf2.size
    omega
set_option maxRecDepth 100000 in
set_option maxHeartbeats 4000000 in
theorem rcut_any {w : World} {v : Value} {l : List Ent} (h : Rd w 10 v (l.flatMap ent)) (hl : l.length ≤ 400) (hr : rightB 0 l = true) (lo hi : Int) :
    Calls Try.prog 28 #[v, .int .i64 lo, .int .i64 hi] w fun e w' => ∃ v1 v2, e = .returned (.tuple #[v1, v2]) ∧ SE w' v1 (leftL l lo hi) ∧ SE w' v2 (goneL l lo hi) ∧ Fr (fun _ => False) w w' := by
  have hc1 := (clipL_len lo hr).2
  have hrc := rightB_clip lo hr
  have hl2 := clip2_len lo hi hr
  have hdefl : leftL l lo hi = (clipL (clipL l lo) hi).filter (fun x => !inB lo hi x) := rfl
  have hdefg : goneL l lo hi = (clipL (clipL l lo) hi).filter (inB lo hi) := rfl
  obtain ⟨cl, hcl⟩ : ∃ cl, cl = clipL (clipL l lo) hi := ⟨_, rfl⟩
  rw [← hcl] at hl2 hdefl hdefg
  rw [hdefl, hdefg]
  have HR := Lib.hid hr
  have HRC := Lib.hid hrc
  have HC1 := Lib.hid hc1
  have HL2 := Lib.hid hl2
  have HCL := Lib.hid hcl
  obtain ⟨i0, hi0, hz0, hzs, hzb⟩ := info_of zeroEnt
  clear hr hrc hc1 hl2 hdefl hdefg hcl
  go_enter Try.func28, Try.ntmps28
  go_wp2_with fail
  refine (rclip_any h (by omega) HR.out lo).mono ?_
  rintro e w1 ⟨v1, rfl, hs1, hf1, ho1⟩
  go_wp2_with fail
  refine (rclip_any (Sl.rd hs1) (by have := HC1.out; omega) HRC.out hi).mono ?_
  rw [← HCL.out]
  rintro e w2 ⟨v2, rfl, hs2, hf2, ho2⟩
  obtain ⟨B, M, D, rfl⟩ := hs2.shape
  have hM : M = cl.length := SE.elen hs2
  have hM5 : M ≤ 402 := by have := HL2.out; omega
  have HM := Lib.hid hM
  have hf02 := hf1.also hf2
  clear hM h hs1 ho1 ho2 hf1 hf2
  go_wp2_with fail
  go_loopw [8, 9, 18] (fun sl sg v wr => ∃ (i : Nat), i ≤ M ∧ v = .int .i64 i ∧ SE wr sl ((cl.take i).filter (fun x => !inB lo hi x)) ∧ SE wr sg ((cl.take i).filter (inB lo hi)) ∧ (∀ k, sl.ownBlock = some k → w2.heap.size ≤ k) ∧ (∀ k, sg.ownBlock = some k → w2.heap.size ≤ k) ∧ (∀ k, sl.ownBlock = some k → sg.ownBlock = some k → False) ∧ Fr (fun _ => False) w2 wr) (fun _ _ v _ => M - (intOf v).toNat)
  case atStart => exact ⟨0, by omega, rfl, Sl.nil _ _ _, Sl.nil _ _ _, (fun k hk => by cases hk), (fun k hk => by cases hk), (fun k hk => by cases hk), Fr.refl _ _⟩
  case round =>
    obtain ⟨i, hiM, rfl, hsl, hsg, hol, hog, hdis, hf⟩ := hrel
    by_cases hlt : i < M
    · obtain ⟨x, hx⟩ : ∃ x, cl[i]? = some x := ⟨_, List.getElem?_eq_getElem (by have := HM.out; omega)⟩
      obtain ⟨g, off, n', cap', heq, hgl, -, -, c0, c1, c2, c3, c4, c5, c6, c7, c8, c9⟩ := SE.entry (Sl.fr hs2 hf (fun _ _ h => h)) hx
      cases heq
      have F1 := Lib.hid (filter_snoc (p := inB lo hi) hx)
      have F2 := Lib.hid (filter_snoc (p := fun y => !inB lo hi y) hx)
      have hll : sliceLen u8 ≤ 1000 := by
        have h1 := SE.elen hsl
        have h2 := List.length_filter_le (fun x => !inB lo hi x) (cl.take i)
        have h3 : (cl.take i).length ≤ 402 := by rw [List.length_take]; have := HL2.out; omega
        omega
      have hlg : sliceLen u9 ≤ 1000 := by
        have h1 := SE.elen hsg
        have h2 := List.length_filter_le (inB lo hi) (cl.take i)
        have h3 : (cl.take i).length ≤ 402 := by rw [List.length_take]; have := HL2.out; omega
        omega
      have hlk : ∀ k, u8.ownBlock = some k → k < wr.heap.size := fun k hk => Sl.lt hsl hk
      have hgk : ∀ k, u9.ownBlock = some k → k < wr.heap.size := fun k hk => Sl.lt hsg hk
      have HSL := Lib.hid hsl
      have HSG := Lib.hid hsg
      have HDIS := Lib.hid hdis
      have HLK := Lib.hid hlk
      have HGK := Lib.hid hgk
      have HOL := Lib.hid hol
      have HOG := Lib.hid hog
      clear hx hdis hlk hgk hol hog
      have two : ∀ (b : Bool), inB lo hi x = b → True := fun _ _ => trivial
      clear two
      by_cases hlo : lo ≤ x.s
      · by_cases hhi : x.e ≤ hi
        · have hin : inB lo hi x = true := by unfold inB; rw [decide_eq_true hlo, decide_eq_true hhi]; rfl
          rw [hin] at F1 F2
          clear hsl hin
          go_upto_region 6 with fail
          go_wp2_with (at_builtin; go_must (refine wpList_app (v := u9) rfl _ _ _ rfl Try.underlying22 hi0 hz0 hzs hzb rfl (by decide) rfl (Sl.alloc (Sl.alloc hsg _) _) _ 1 1 [.int .i64 x.s, .int .i64 x.e, .int .i64 x.f, .int .i64 x.o, .bool x.sh, .int .i64 x.pr, .int .i64 x.mx, .int .i64 x.inh, .int .i64 x.adv, .bool x.wi] rfl (ob_newAt _ _ _ (by simp)) rfl (by simp [Value.oneCell']) (by decide) (by simp only [maxLen] at *; omega) (by omega) ?_; intro v4 w4 hs4 hf4 ho4 hl4))
          have hfa : Fr (fun _ => False) wr ((wr.alloc (.cells #[.int .i64 x.s, .int .i64 x.e, .int .i64 x.f, .int .i64 x.o, .bool x.sh, .int .i64 x.pr, .int .i64 x.mx, .int .i64 x.inh, .int .i64 x.adv, .bool x.wi] 27)).alloc (.cells #[.int .i64 x.s, .int .i64 x.e, .int .i64 x.f, .int .i64 x.o, .bool x.sh, .int .i64 x.pr, .int .i64 x.mx, .int .i64 x.inh, .int .i64 x.adv, .bool x.wi] 27)) := ((Fr.refl _ wr).alloc _).alloc _
          obtain ⟨k1, k2, k3⟩ := app_fin hs4 hf hfa hf4 ho4 HOG.out
          have k4 : SE w4 u8 ((cl.take i).filter (fun x => !inB lo hi x)) := Sl.fr (Sl.fr HSL.out hfa (fun _ _ h => h)) hf4 (fun k hk h => HDIS.out k hk h)
          have k5 := own_app (w3 := w4) (m := u8) hfa ho4 HLK.out HDIS.out
          go_wp2
          go_roundw
          case rel => exact ⟨i + 1, by omega, by go_num, by rw [F2.out]; simpa using k4, by rw [F1.out]; exact k1, HOL.out, k2, k5, k3⟩
          case measure => simp [intOf]; omega
        · have hin : inB lo hi x = false := by unfold inB; rw [decide_eq_false hhi]; simp
          rw [hin] at F1 F2
          clear hsg hin
          go_upto_region 7 with fail
          go_wp2_with (at_builtin; go_must (refine wpList_app (v := u8) rfl _ _ _ rfl Try.underlying22 hi0 hz0 hzs hzb rfl (by decide) rfl (Sl.alloc (Sl.alloc hsl _) _) _ 1 1 [.int .i64 x.s, .int .i64 x.e, .int .i64 x.f, .int .i64 x.o, .bool x.sh, .int .i64 x.pr, .int .i64 x.mx, .int .i64 x.inh, .int .i64 x.adv, .bool x.wi] rfl (ob_newAt _ _ _ (by simp)) rfl (by simp [Value.oneCell']) (by decide) (by simp only [maxLen] at *; omega) (by omega) ?_; intro v4 w4 hs4 hf4 ho4 hl4))
          have hfa : Fr (fun _ => False) wr ((wr.alloc (.cells #[.int .i64 x.s, .int .i64 x.e, .int .i64 x.f, .int .i64 x.o, .bool x.sh, .int .i64 x.pr, .int .i64 x.mx, .int .i64 x.inh, .int .i64 x.adv, .bool x.wi] 27)).alloc (.cells #[.int .i64 x.s, .int .i64 x.e, .int .i64 x.f, .int .i64 x.o, .bool x.sh, .int .i64 x.pr, .int .i64 x.mx, .int .i64 x.inh, .int .i64 x.adv, .bool x.wi] 27)) := ((Fr.refl _ wr).alloc _).alloc _
          obtain ⟨k1, k2, k3⟩ := app_fin hs4 hf hfa hf4 ho4 HOL.out
          have k4 : SE w4 u9 ((cl.take i).filter (inB lo hi)) := Sl.fr (Sl.fr HSG.out hfa (fun _ _ h => h)) hf4 (fun k hk h => HDIS.out k h hk)
          have k5 := own_app (w3 := w4) (m := u9) hfa ho4 HGK.out (fun k h1 h2 => HDIS.out k h2 h1)
          go_wp2
          go_roundw
          case rel => exact ⟨i + 1, by omega, by go_num, by rw [F2.out]; exact k1, by rw [F1.out]; simpa using k4, k2, HOG.out, (fun k h1 h2 => k5 k h2 h1), k3⟩
          case measure => simp [intOf]; omega
      · have hin : inB lo hi x = false := by unfold inB; rw [decide_eq_false hlo]; rfl
        rw [hin] at F1 F2
        clear hsg hin
        go_upto_region 7 with fail
        go_wp2_with (at_builtin; go_must (refine wpList_app (v := u8) rfl _ _ _ rfl Try.underlying22 hi0 hz0 hzs hzb rfl (by decide) rfl (Sl.alloc (Sl.alloc hsl _) _) _ 1 1 [.int .i64 x.s, .int .i64 x.e, .int .i64 x.f, .int .i64 x.o, .bool x.sh, .int .i64 x.pr, .int .i64 x.mx, .int .i64 x.inh, .int .i64 x.adv, .bool x.wi] rfl (ob_newAt _ _ _ (by simp)) rfl (by simp [Value.oneCell']) (by decide) (by simp only [maxLen] at *; omega) (by omega) ?_; intro v4 w4 hs4 hf4 ho4 hl4))
        have hfa : Fr (fun _ => False) wr ((wr.alloc (.cells #[.int .i64 x.s, .int .i64 x.e, .int .i64 x.f, .int .i64 x.o, .bool x.sh, .int .i64 x.pr, .int .i64 x.mx, .int .i64 x.inh, .int .i64 x.adv, .bool x.wi] 27)).alloc (.cells #[.int .i64 x.s, .int .i64 x.e, .int .i64 x.f, .int .i64 x.o, .bool x.sh, .int .i64 x.pr, .int .i64 x.mx, .int .i64 x.inh, .int .i64 x.adv, .bool x.wi] 27)) := ((Fr.refl _ wr).alloc _).alloc _
        obtain ⟨k1, k2, k3⟩ := app_fin hs4 hf hfa hf4 ho4 HOL.out
        have k4 : SE w4 u9 ((cl.take i).filter (inB lo hi)) := Sl.fr (Sl.fr HSG.out hfa (fun _ _ h => h)) hf4 (fun k hk h => HDIS.out k h hk)
        have k5 := own_app (w3 := w4) (m := u9) hfa ho4 HGK.out (fun k h1 h2 => HDIS.out k h2 h1)
        go_wp2
        go_roundw
        case rel => exact ⟨i + 1, by omega, by go_num, by rw [F2.out]; exact k1, by rw [F1.out]; simpa using k4, k2, HOG.out, (fun k h1 h2 => k5 k h2 h1), k3⟩
        case measure => simp [intOf]; omega
    · obtain rfl : i = M := by omega
      have ht : cl.take i = cl := List.take_of_length_le (by rw [HM.out]; exact Nat.le_refl _)
      rw [ht] at hsl hsg
      go_wp2
      go_ret2
      exact ⟨_, _, rfl, hsl, hsg, hf02.also hf⟩
/-- How far an insertion has come. -/
def InsInv (l : List Ent) (e : Ent) (i : Nat) (d : Bool) (out : List Ent) : Prop :=
  (d = false ∧ i ≤ fidx l e.s ∧ out = l.take i) ∨ (d = true ∧ fidx l e.s < i ∧ freeB l e = true ∧ out = (insAt l e).take (i + 1))
theorem insAt_get {l : List Ent} {e x : Ent} {i : Nat} (hi : fidx l e.s ≤ i) (hx : l[i]? = some x) : (insAt l e)[i + 1]? = some x := by
  have hfl := fidx_le l e.s
  have hlt : (l.take (fidx l e.s)).length = fidx l e.s := by rw [List.length_take]; omega
  unfold insAt
  rw [List.getElem?_append_right (by omega), hlt, show i + 1 - fidx l e.s = (i - fidx l e.s) + 1 by omega, List.getElem?_cons_succ, List.getElem?_drop, show fidx l e.s + (i - fidx l e.s) = i by omega]
  exact hx
theorem insAt_take (l : List Ent) (e : Ent) : (insAt l e).take (fidx l e.s + 1) = l.take (fidx l e.s) ++ [e] := by
  have hfl := fidx_le l e.s
  have hlt : (l.take (fidx l e.s)).length = fidx l e.s := by rw [List.length_take]; omega
  unfold insAt
  rw [List.take_append, hlt, show fidx l e.s + 1 - fidx l e.s = 1 by omega, List.take_of_length_le (by omega)]; rfl
theorem high_after {l : List Ent} {e x : Ent} {i : Nat} (hr : rightB 0 l = true) (hf : freeB l e = true) (hi : fidx l e.s < i) (hx : l[i]? = some x) : e.e ≤ x.s := by
  cases hy : l[fidx l e.s]? with
  | none =>
    have := List.getElem?_eq_none_iff.1 hy
    have := (List.getElem?_eq_some_iff.1 hx).1
    omega
  | some y =>
    unfold freeB at hf
    rw [hy] at hf
    have h1 : e.e ≤ y.s := by simpa using hf
    have h3 := rightB_drop (fidx l e.s) hr
    rw [ent_drop hy, rightB_cons] at h3
    have h4 : x ∈ l.drop (fidx l e.s + 1) := List.mem_of_getElem? (i := i - (fidx l e.s + 1)) (by rw [List.getElem?_drop, show fidx l e.s + 1 + (i - (fidx l e.s + 1)) = i by omega]; exact hx)
    have h5 := (rightB_mem h3.2.2 x h4).2
    have h6 := (goodE_of h3.1).se
    omega
end Go.Proofs.Ytjgjgkcboigocaa
