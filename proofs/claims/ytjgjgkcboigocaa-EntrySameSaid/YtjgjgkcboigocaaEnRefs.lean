/- pantryref15.Clip, joins, Merge. Conditions: a right list of at most 500 entries. -/
import Derived.Test.YtjgjgkcboigocaaEnMerge
import Derived.Test.YtjgjgkcboigocaaEnClipsP
namespace Go.Proofs.Ytjgjgkcboigocaa
open Go.RowKit
set_option linter.unusedSimpArgs false
set_option linter.unusedVariables false
theorem app_fin2 {w wr W w3 : World} {v v2 : Value} {out : List Ent} {x y : Ent} (hs2 : Sl w3 27 10 v2 (out.flatMap ent ++ (ent x ++ ent y))) (hf : Fr (fun _ => False) w wr) (hf2 : Fr (fun _ => False) wr W) (hf3 : Fr (fun k => v.ownBlock = some k) W w3)
    (ho2 : v2.ownBlock = v.ownBlock ∨ ∃ k, v2.ownBlock = some k ∧ W.heap.size ≤ k) (hown : ∀ k, v.ownBlock = some k → w.heap.size ≤ k) : SE w3 v2 (out ++ [x, y]) ∧ (∀ k, v2.ownBlock = some k → w.heap.size ≤ k) ∧ Fr (fun _ => False) w w3 := by
  refine ⟨?_, fun k hk => ?_, (hf.also hf2).step hf3 (fun k hk => .inr (hown k hk))⟩
  · show Sl w3 27 10 v2 ((out ++ [x, y]).flatMap ent)
    rw [List.flatMap_append]
    simpa using hs2
  · rcases ho2 with ho2 | ⟨r, ho2, hr⟩
    · exact hown k (ho2 ▸ hk)
    · rw [ho2] at hk; cases hk
      exact Nat.le_trans (hf.also hf2).size hr
theorem clip_take {l : List Ent} {p : Int} {i : Nat} {x : Ent} (hx : l[i]? = some x) : clipL (l.take (i + 1)) p = clipL (l.take i) p ++ clip1 x p := by
  rw [List.take_add_one, hx]
  unfold clipL
  rw [List.flatMap_append]; simp
theorem clip_take_len (l : List Ent) (p : Int) (i : Nat) (hi : i ≤ l.length) : (clipL (l.take i) p).length ≤ 2 * i := by
  have : ∀ m : List Ent, (clipL m p).length ≤ 2 * m.length := fun m => by
    induction m with
    | nil => exact Nat.le_refl _
    | cons x m ih =>
      have e : clipL (x :: m) p = clip1 x p ++ clipL m p := rfl
      rw [e, List.length_append, List.length_cons]
      have : (clip1 x p).length ≤ 2 := by unfold clip1; split <;> simp
      omega
  have h1 := this (l.take i)
  rw [List.length_take, Nat.min_eq_left hi] at h1
  exact h1
set_option maxRecDepth 100000 in
set_option maxHeartbeats 4000000 in
theorem rclip_any {w : World} {v : Value} {l : List Ent} (h0 : Rd w 10 v (l.flatMap ent)) (hl : l.length ≤ 500) (hr : rightB 0 l = true) (p : Int) :
    Calls Try.prog 30 #[v, .int .i64 p] w fun e w' => ∃ v', e = .returned v' ∧ SE w' v' (clipL l p) ∧ Fr (fun _ => False) w w' ∧ ∀ k, v'.ownBlock = some k → w.heap.size ≤ k := by
  obtain ⟨A, N, C, rfl⟩ := h0.shape
  have h := h0
  have hN : N = l.length := h.elen
  rw [← hN] at hl
  have HN := Lib.hid hN
  have HR := Lib.hid hr
  obtain ⟨i0, hi0, hz0, hzs, hzb⟩ := info_of zeroEnt
  clear hN hr h0
  go_enter Try.func30, Try.ntmps30
  go_wp2_with fail
  go_loopw [5, 12] (fun o v wr => ∃ (i : Nat), i ≤ N ∧ v = .int .i64 i ∧ SE wr o (clipL (l.take i) p) ∧ (∀ k, o.ownBlock = some k → w.heap.size ≤ k) ∧ Fr (fun _ => False) w wr) (fun _ v _ => N - (intOf v).toNat)
  case atStart => exact ⟨0, by omega, rfl, Sl.nil _ _ _, (fun k hk => by cases hk), Fr.refl _ _⟩
  case round =>
    obtain ⟨i, hi, rfl, hs, hown, hf⟩ := hrel
    by_cases hlt : i < N
    · obtain ⟨x, hx⟩ : ∃ x, l[i]? = some x := ⟨_, List.getElem?_eq_getElem (by have := HN.out; omega)⟩
      obtain ⟨g', off', n', cap', heq, hgl', -, c0, c1, c2, c3, c4, c5, c6, c7, c8, c9⟩ := (h.of hf (fun _ h => h.elim)).entry hx
      cases heq
      obtain ⟨g1, g2, g3, g4, g5, g6, g7⟩ := goodE_of (rightB_mem HR.out x (List.mem_of_getElem? hx)).1
      have HT := Lib.hid (clip_take (p := p) hx)
      have hol := clip_take_len l p i (by have := HN.out; omega)
      have hoL : sliceLen u5 ≤ 1000 := by have := SE.elen hs; omega
      clear hx hol
      by_cases h1 : x.s < p
      · by_cases h2 : p < x.e
        · have HT2 := Lib.hid (HT.out.trans (by rw [show clip1 x p = [cutA x p, cutB x p] from if_pos ⟨h1, h2⟩]))
          by_cases hf0 : 0 < x.f
          · have ho4 := g7 hf0
            have hB := cutB_pos x p hf0
            clear g6 g7
            go_wp2_with fail
            go_region
            all_goals
              go_upto_region 10 with fail
              go_wp2_with (at_builtin; go_must (refine wpList_app (v := u5) rfl _ _ _ rfl Try.underlying22 hi0 hz0 hzs hzb rfl (by decide) rfl (Sl.fr (S := fun _ => False) hs (by repeat' first | exact Fr.refl _ _ | apply Fr.alloc | apply Fr.drew) (fun _ _ h => h)) _ 2 2 _ rfl (ob_newAt _ _ _ (by simp)) rfl (by simp [Value.oneCell']) (by decide) (by simp only [maxLen] at *; omega) (by omega) ?_; intro v2 w4 hs2 hf3 ho2 hl2))
              obtain ⟨k1, k2, k3⟩ := app_fin2 (x := cutA x p) (y := cutB x p) (by rw [hB]; exact hs2) hf (by repeat' first | exact Fr.refl _ _ | apply Fr.alloc | apply Fr.drew) hf3 ho2 hown
              go_wp2
              go_roundw
              case rel => exact ⟨i + 1, by omega, by go_num, by rw [HT2.out]; exact k1, k2, k3⟩
              case measure => simp [intOf]; omega
          · have hB := cutB_neg x p hf0
            clear g6 g7
            go_wp2_with fail
            go_region
            all_goals
              go_upto_region 10 with fail
              go_wp2_with (at_builtin; go_must (refine wpList_app (v := u5) rfl _ _ _ rfl Try.underlying22 hi0 hz0 hzs hzb rfl (by decide) rfl (Sl.fr (S := fun _ => False) hs (by repeat' first | exact Fr.refl _ _ | apply Fr.alloc | apply Fr.drew) (fun _ _ h => h)) _ 2 2 _ rfl (ob_newAt _ _ _ (by simp)) rfl (by simp [Value.oneCell']) (by decide) (by simp only [maxLen] at *; omega) (by omega) ?_; intro v2 w4 hs2 hf3 ho2 hl2))
              obtain ⟨k1, k2, k3⟩ := app_fin2 (x := cutA x p) (y := cutB x p) (by rw [hB]; exact hs2) hf (by repeat' first | exact Fr.refl _ _ | apply Fr.alloc | apply Fr.drew) hf3 ho2 hown
              go_wp2
              go_roundw
              case rel => exact ⟨i + 1, by omega, by go_num, by rw [HT2.out]; exact k1, k2, k3⟩
              case measure => simp [intOf]; omega
        · have HT2 := Lib.hid (HT.out.trans (by rw [show clip1 x p = [x] from if_neg (by omega)]))
          clear g6 g7
          go_upto_region 11 with fail
          go_wp2_with (at_builtin; go_must (refine wpList_app (v := u5) rfl _ _ _ rfl Try.underlying22 hi0 hz0 hzs hzb rfl (by decide) rfl (Sl.alloc (Sl.alloc hs _) _) _ 1 1 [.int .i64 x.s, .int .i64 x.e, .int .i64 x.f, .int .i64 x.o, .bool x.sh, .int .i64 x.pr, .int .i64 x.mx, .int .i64 x.inh, .int .i64 x.adv, .bool x.wi] rfl (ob_newAt _ _ _ (by simp)) rfl (by simp [Value.oneCell']) (by decide) (by simp only [maxLen] at *; omega) (by omega) ?_; intro v2 w4 hs2 hf3 ho2 hl2))
          obtain ⟨k1, k2, k3⟩ := app_fin hs2 hf (((Fr.refl _ wr).alloc _).alloc _) hf3 ho2 hown
          go_wp2
          go_roundw
          case rel => exact ⟨i + 1, by omega, by go_num, by rw [HT2.out]; exact k1, k2, k3⟩
          case measure => simp [intOf]; omega
      · have HT2 := Lib.hid (HT.out.trans (by rw [show clip1 x p = [x] from if_neg (by omega)]))
        clear g6 g7
        go_upto_region 11 with fail
        go_wp2_with (at_builtin; go_must (refine wpList_app (v := u5) rfl _ _ _ rfl Try.underlying22 hi0 hz0 hzs hzb rfl (by decide) rfl (Sl.alloc (Sl.alloc hs _) _) _ 1 1 [.int .i64 x.s, .int .i64 x.e, .int .i64 x.f, .int .i64 x.o, .bool x.sh, .int .i64 x.pr, .int .i64 x.mx, .int .i64 x.inh, .int .i64 x.adv, .bool x.wi] rfl (ob_newAt _ _ _ (by simp)) rfl (by simp [Value.oneCell']) (by decide) (by simp only [maxLen] at *; omega) (by omega) ?_; intro v2 w4 hs2 hf3 ho2 hl2))
        obtain ⟨k1, k2, k3⟩ := app_fin hs2 hf (((Fr.refl _ wr).alloc _).alloc _) hf3 ho2 hown
        go_wp2
        go_roundw
        case rel => exact ⟨i + 1, by omega, by go_num, by rw [HT2.out]; exact k1, k2, k3⟩
        case measure => simp [intOf]; omega
    · obtain rfl : i = N := by omega
      go_wp2
      go_ret
      exact ⟨_, rfl, by have := hs; rw [List.take_of_length_le (by rw [HN.out]; exact Nat.le_refl _)] at this; exact this, hf, hown⟩
def joinsB (a b : Ent) : Bool := decide (a.e = b.s) && (decide (a = ⟨a.s, a.e, b.f, a.o, b.sh, b.pr, b.mx, b.inh, b.adv, b.wi⟩) && (decide (a.f = 0) || decide (b.o = a.o + a.e - a.s)))
theorem joinsB_on {a b : Ent} (ha : goodB a = true) (hb : goodB b = true) : joinsB a b = decide (onE a b = b) := by
  have ga := goodE_of ha
  have gb := goodE_of hb
  rw [Bool.eq_iff_iff]
  unfold joinsB
  simp only [Bool.and_eq_true, Bool.or_eq_true, decide_eq_true_eq]
  obtain ⟨a1, a2, a3, a4, a5, a6, a7, a8, a9, a10⟩ := a
  obtain ⟨b1, b2, b3, b4, b5, b6, b7, b8, b9, b10⟩ := b
  have h1 := ga.f0
  have h2 := ga.fo
  have h3 := gb.fo
  simp only at h1 h2 h3
  unfold onE
  simp only [Ent.mk.injEq, true_and, and_true]
  constructor
  · rintro ⟨rfl, ⟨rfl, rfl, rfl, rfl, rfl, rfl, rfl⟩, h⟩
    refine ⟨rfl, rfl, ?_, rfl, rfl, rfl, rfl, rfl, rfl⟩
    by_cases hf : a3 = 0
    · rw [if_neg (by omega), h2 hf, h3 hf]
    · rw [if_pos (by omega)]
      rcases h with h | h
      · exact absurd h hf
      · omega
  · rintro ⟨rfl, rfl, ho, rfl, rfl, rfl, rfl, rfl, rfl⟩
    refine ⟨rfl, ⟨rfl, rfl, rfl, rfl, rfl, rfl, rfl⟩, ?_⟩
    by_cases hf : a3 = 0
    · exact .inl hf
    · right
      rw [if_pos (by omega)] at ho
      omega
set_option maxRecDepth 100000 in
set_option maxHeartbeats 4000000 in
theorem joins_any (a b : Ent) (ha : goodB a = true) (hb : goodB b = true) (w : World) : Calls Try.prog 42 #[.agg #[.int .i64 a.s, .int .i64 a.e, .int .i64 a.f, .int .i64 a.o, .bool a.sh, .int .i64 a.pr, .int .i64 a.mx, .int .i64 a.inh, .int .i64 a.adv, .bool a.wi], .agg #[.int .i64 b.s, .int .i64 b.e, .int .i64 b.f, .int .i64 b.o, .bool b.sh, .int .i64 b.pr, .int .i64 b.mx, .int .i64 b.inh, .int .i64 b.adv, .bool b.wi]] w fun e w' => e = .returned (.bool (decide (onE a b = b))) ∧ Fr (fun _ => False) w w' := by
  rw [← joinsB_on ha hb]
  obtain ⟨g1, g2, g3, g4, g5, g6, g7⟩ := goodE_of ha
  obtain ⟨r, hr⟩ : ∃ r, r = joinsB a b := ⟨_, rfl⟩
  rw [← hr]
  obtain ⟨q, hq⟩ : ∃ q, q = (Ent.mk a.s a.e a.f a.o a.sh a.pr a.mx a.inh a.adv a.wi).eqb ⟨a.s, a.e, b.f, a.o, b.sh, b.pr, b.mx, b.inh, b.adv, b.wi⟩ := ⟨_, rfl⟩
  have hr2 : r = (decide (a.e = b.s) && (q && (decide (a.f = 0) || decide (b.o = a.o + a.e - a.s)))) := by
    rw [hr, hq, Ent.eqb_dec]; rfl
  have HR := Lib.hid hr2
  have hqs := hq.symm
  clear hr hr2 hq
  go_enter Try.func42, Try.ntmps42
  by_cases h1 : a.e = b.s
  · have h1b : (a.e == b.s) = true := by simp [h1]
    have HR1 := Lib.hid (show r = (q && (decide (a.f = 0) || decide (b.o = a.o + a.e - a.s))) by rw [HR.out, decide_eq_true h1]; rfl)
    clear h1 HR
    go_wp2_with fail
    go_region
    all_goals
      cases q with
      | false =>
        obtain rfl : r = false := by rw [HR1.out]; rfl
        go_wp2_with fail
        go_ret
        exact ⟨rfl, by repeat' first | exact Fr.refl _ _ | apply Fr.alloc | apply Fr.drew⟩
      | true =>
        by_cases h2 : a.f = 0
        · have h2b : (a.f == 0) = true := by simp [h2]
          obtain rfl : r = true := by rw [HR1.out, decide_eq_true h2]; rfl
          clear h2 g6 g7
          go_wp2_with fail
          go_ret
          exact ⟨rfl, by repeat' first | exact Fr.refl _ _ | apply Fr.alloc | apply Fr.drew⟩
        · have h2b : (a.f == 0) = false := by simp [h2]
          have ho4 := g7 (by omega)
          have hr3 : r = (b.o == a.o + a.e - a.s) := by rw [HR1.out, decide_eq_false h2]; simp; rfl
          have HR3 := Lib.hid hr3
          clear h2 g6 g7 hr3
          go_wp2_with fail
          go_ret
          exact ⟨by rw [HR3.out]; rfl, by repeat' first | exact Fr.refl _ _ | apply Fr.alloc | apply Fr.drew⟩
  · have h1b : (a.e == b.s) = false := by simp [h1]
    obtain rfl : r = false := by rw [HR.out, decide_eq_false h1]; rfl
    clear h1 HR
    go_wp2_with fail
    go_region
    all_goals
      go_wp2_with fail
      go_ret
      exact ⟨rfl, by repeat' first | exact Fr.refl _ _ | apply Fr.alloc | apply Fr.drew⟩
end Go.Proofs.Ytjgjgkcboigocaa
