/- entry.on and entry.Merge. Conditions: a right list of at most 500 entries. -/
import Derived.Test.YtopglbkcciigbaaEnMergeP
import Derived.Test.YtopglbkcciigbaaEnIns
import Derived.Deep.QuietTactic
import Derived.BigQuiet
import Derived.Deep.RegionHeld3
namespace Go.Proofs.Ytopglbkcciigbaa
open Go.RowKit
set_option linter.unusedSimpArgs false
set_option linter.unusedVariables false
set_option maxRecDepth 100000 in
set_option maxHeartbeats 4000000 in
theorem on_any (a b : Ent) (ha : goodB a = true) (w : World) : Calls Try.prog 38 #[.agg #[.int .i64 a.s, .int .i64 a.e, .int .i64 a.f, .int .i64 a.o, .bool a.sh, .int .i64 a.pr, .int .i64 a.mx, .int .i64 a.inh, .int .i64 a.adv, .bool a.wi], .agg #[.int .i64 b.s, .int .i64 b.e, .int .i64 b.f, .int .i64 b.o, .bool b.sh, .int .i64 b.pr, .int .i64 b.mx, .int .i64 b.inh, .int .i64 b.adv, .bool b.wi]] w fun e w' => e = .returned (.agg #[.int .i64 (onE a b).s, .int .i64 (onE a b).e, .int .i64 (onE a b).f, .int .i64 (onE a b).o, .bool (onE a b).sh, .int .i64 (onE a b).pr, .int .i64 (onE a b).mx, .int .i64 (onE a b).inh, .int .i64 (onE a b).adv, .bool (onE a b).wi]) ∧ Fr (fun _ => False) w w' := by
  obtain ⟨g1, g2, g3, g4, g5, g6, g7⟩ := goodE_of ha
  obtain ⟨o, ho⟩ : ∃ o, o = if 0 < a.f then a.o + (a.e - a.s) else a.o := ⟨_, rfl⟩
  have e1 : onE a b = ⟨a.e, b.e, a.f, o, a.sh, a.pr, a.mx, a.inh, a.adv, a.wi⟩ := by rw [ho]; rfl
  rw [e1]
  have HO := Lib.hid ho
  clear ho e1
  go_enter Try.func38, Try.ntmps38
  by_cases hf : 0 < a.f
  · have ho4 := g7 hf
    obtain rfl : o = a.o + (a.e - a.s) := by rw [HO.out, if_pos hf]
    go_wp2_with fail
    go_region
    go_wp2_with fail
    refine bodyPost_ret (v := .agg #[.int .i64 a.e, .int .i64 b.e, .int .i64 a.f, .int .i64 (a.o + (a.e - a.s)), .bool a.sh, .int .i64 a.pr, .int .i64 a.mx, .int .i64 a.inh, .int .i64 a.adv, .bool a.wi]) (by simp [results, Try.results38, go_sem]) rfl ⟨rfl, ?_⟩
    exact (((((Fr.refl _ w).alloc _).alloc _).alloc _).alloc _).drew
  · obtain rfl : o = a.o := by rw [HO.out, if_neg hf]
    go_wp2_with fail
    go_region
    go_wp2_with fail
    refine bodyPost_ret (v := .agg #[.int .i64 a.e, .int .i64 b.e, .int .i64 a.f, .int .i64 a.o, .bool a.sh, .int .i64 a.pr, .int .i64 a.mx, .int .i64 a.inh, .int .i64 a.adv, .bool a.wi]) (by simp [results, Try.results38, go_sem]) rfl ⟨rfl, ?_⟩
    exact (((((Fr.refl _ w).alloc _).alloc _).alloc _).alloc _).drew
theorem Fr.drewN {S : Nat → Prop} {w w1 : World} (h : Fr S w w1) (n : Nat) : Fr S w (w1.drewN n) := ⟨h.os, h.tape, h.output, h.size, h.block⟩
theorem app_fin {w wr W w3 : World} {v v2 : Value} {out : List Ent} {x : Ent} (hs2 : Sl w3 28 10 v2 (out.flatMap ent ++ [.int .i64 x.s, .int .i64 x.e, .int .i64 x.f, .int .i64 x.o, .bool x.sh, .int .i64 x.pr, .int .i64 x.mx, .int .i64 x.inh, .int .i64 x.adv, .bool x.wi])) (hf : Fr (fun _ => False) w wr) (hf2 : Fr (fun _ => False) wr W) (hf3 : Fr (fun k => v.ownBlock = some k) W w3)
    (ho2 : v2.ownBlock = v.ownBlock ∨ ∃ k, v2.ownBlock = some k ∧ W.heap.size ≤ k) (hown : ∀ k, v.ownBlock = some k → w.heap.size ≤ k) : SE w3 v2 (out ++ [x]) ∧ (∀ k, v2.ownBlock = some k → w.heap.size ≤ k) ∧ Fr (fun _ => False) w w3 := by
  refine ⟨?_, fun k hk => ?_, (hf.also hf2).step hf3 (fun k hk => .inr (hown k hk))⟩
  · show Sl w3 28 10 v2 ((out ++ [x]).flatMap ent)
    rw [List.flatMap_append]
    exact hs2
  · rcases ho2 with ho2 | ⟨r, ho2, hr⟩
    · exact hown k (ho2 ▸ hk)
    · rw [ho2] at hk; cases hk
      exact Nat.le_trans (hf.also hf2).size hr
theorem set_last {acc : List Ent} {a b : Ent} : (acc ++ [a]).set acc.length b = acc ++ [b] := by simp
theorem get_last {acc : List Ent} {a : Ent} : (acc ++ [a])[acc.length]? = some a := by simp
set_option maxRecDepth 100000 in
set_option maxHeartbeats 4000000 in
theorem merge_any {w : World} {A : Option Addr} {N C : Nat} {l : List Ent} (h : Rd w 10 (.slice A N C) (l.flatMap ent)) (hl : l.length ≤ 500) (hr : rightB 0 l = true) :
    Calls Try.prog 22 #[.slice A N C] w fun e w' => ∃ v', e = .returned v' ∧ SE w' v' (mergeL l) ∧ Fr (fun _ => False) w w' ∧ ∀ k, v'.ownBlock = some k → w.heap.size ≤ k := by
  have hN : N = l.length := h.elen
  rw [← hN] at hl
  have HN := Lib.hid hN
  have HR := Lib.hid hr
  obtain ⟨i0, hi0, hz0, hzs, hzb⟩ := info_of zeroEnt
  clear hN hr
  go_enter Try.func22, Try.ntmps22
  go_wp2_with fail
  go_loopw [3, 9] (fun o v wr => ∃ (i : Nat) (out : List Ent), i ≤ N ∧ v = .int .i64 i ∧ SE wr o out ∧ Hid (MInv l out i) ∧ out.length ≤ i ∧ (∀ k, o.ownBlock = some k → w.heap.size ≤ k) ∧ Fr (fun _ => False) w wr) (fun _ v _ => N - (intOf v).toNat)
  case atStart => exact ⟨0, [], by omega, rfl, Sl.nil _ _ _, Lib.hid (.inl ⟨rfl, rfl⟩), by simp, (fun k hk => by cases hk), Fr.refl _ _⟩
  case round =>
    obtain ⟨i, out, hi, rfl, hs, HM, hol, hown, hf⟩ := hrel
    by_cases hlt : i < N
    · obtain ⟨x, hx⟩ : ∃ x, l[i]? = some x := ⟨_, List.getElem?_eq_getElem (by have := HN.out; omega)⟩
      obtain ⟨g', off', n', cap', heq, hgl', -, c0, c1, c2, c3, c4, c5, c6, c7, c8, c9⟩ := (h.of hf (fun _ h => h.elim)).entry hx
      cases heq
      have HX := Lib.hid hx
      obtain ⟨bx, hbx⟩ : ∃ bx, bx = wr.heap.size := ⟨_, rfl⟩
      obtain ⟨W, hW⟩ : ∃ W, W = wr.alloc (.cells #[.int .i64 x.s, .int .i64 x.e, .int .i64 x.f, .int .i64 x.o, .bool x.sh, .int .i64 x.pr, .int .i64 x.mx, .int .i64 x.inh, .int .i64 x.adv, .bool x.wi] 28) := ⟨_, rfl⟩
      have hfW : Fr (fun _ => False) wr W := by rw [hW]; exact (Fr.refl _ _).alloc _
      have oW : ob W bx = some (.cells #[.int .i64 x.s, .int .i64 x.e, .int .i64 x.f, .int .i64 x.o, .bool x.sh, .int .i64 x.pr, .int .i64 x.mx, .int .i64 x.inh, .int .i64 x.adv, .bool x.wi] 28 (0, 0)) := by rw [hW, hbx]; exact ob_new _ _
      have hsW := hs.fr hfW (fun _ _ h => h)
      clear hx
      have hoL : sliceLen u3 ≤ 500 := by have := SE.elen hs; omega
      subst hW hbx
      rcases Nat.eq_zero_or_pos i with hi0' | hip
      · subst hi0'
        have ho : out = [] := List.eq_nil_of_length_eq_zero (by omega)
        subst ho
        obtain ⟨B, L, D, rfl⟩ := hs.shape
        have hL : L = 0 := SE.elen hs
        subst hL
        simp only [Nat.zero_mul, Nat.add_zero] at c0 c1 c2 c3 c4 c5 c6 c7 c8 c9
        go_wp2_with fail
        go_quiet (fail)
        go_upto_region 8 with fail
        go_wp2_with (at_builtin; go_must (refine wpList_app (v := .slice B 0 D) rfl _ _ _ rfl Try.underlying31 hi0 hz0 hzs hzb rfl (by decide) rfl (Sl.alloc (Sl.of hsW (fun _ _ => rfl)) _) _ 1 1 [.int .i64 x.s, .int .i64 x.e, .int .i64 x.f, .int .i64 x.o, .bool x.sh, .int .i64 x.pr, .int .i64 x.mx, .int .i64 x.inh, .int .i64 x.adv, .bool x.wi] rfl (ob_newAt _ _ _ (by simp)) rfl (by simp [Value.oneCell']) (by decide) (by simp only [maxLen, sliceLen]; omega) (by simp only [sliceLen]; omega) ?_; intro v2 w3 hs2 hf3 ho2 hl2))
        obtain ⟨h1, h2, h3⟩ := app_fin hs2 hf (((((Fr.refl _ wr).alloc _).drewN _)).alloc _) hf3 ho2 hown
        go_roundw
        case rel => exact ⟨1, [x], by omega, rfl, h1, Lib.hid (minv_first HR.out HX.out), by simp, h2, h3⟩
        case measure => simp [intOf]; omega
      · obtain ⟨acc, a, hoa⟩ := HM.out.snoc hip
        subst hoa
        have HG := Lib.hid HM.out.good
        obtain ⟨g, off, n, cap, heq, hgl, hfz, hn, -⟩ := SE.entry hs get_last
        subst heq
        obtain ⟨k, hk⟩ : ∃ k, k = acc.length := ⟨_, rfl⟩
        obtain rfl : n = k + 1 := by rw [hn, hk]; simp
        have hkk := hk
        have HK := Lib.hid hkk
        simp only [List.length_append, List.length_cons, List.length_nil] at hol
        rw [← hk] at hol
        have hfi := hfz
        have hbxl : wr.heap.size < wr.heap.size + 1 := Nat.lt_succ_self _
        have key : ∀ w3, Fr (fun _ => False) (wr.alloc (.cells #[.int .i64 x.s, .int .i64 x.e, .int .i64 x.f, .int .i64 x.o, .bool x.sh, .int .i64 x.pr, .int .i64 x.mx, .int .i64 x.inh, .int .i64 x.adv, .bool x.wi] 28)).drew w3 → ((w3.cell? ⟨g, off + k * 10, none⟩ = some (.int .i64 a.s) ∧ w3.cell? ⟨g, off + k * 10 + 1, none⟩ = some (.int .i64 a.e) ∧ w3.cell? ⟨g, off + k * 10 + 2, none⟩ = some (.int .i64 a.f) ∧ w3.cell? ⟨g, off + k * 10 + 3, none⟩ = some (.int .i64 a.o) ∧ w3.cell? ⟨g, off + k * 10 + 4, none⟩ = some (.bool a.sh) ∧ w3.cell? ⟨g, off + k * 10 + 5, none⟩ = some (.int .i64 a.pr) ∧ w3.cell? ⟨g, off + k * 10 + 6, none⟩ = some (.int .i64 a.mx) ∧ w3.cell? ⟨g, off + k * 10 + 7, none⟩ = some (.int .i64 a.inh) ∧ w3.cell? ⟨g, off + k * 10 + 8, none⟩ = some (.int .i64 a.adv) ∧ w3.cell? ⟨g, off + k * 10 + 9, none⟩ = some (.bool a.wi)) ∧ (w3.cell? ⟨wr.heap.size, 0, none⟩ = some (.int .i64 x.s) ∧ w3.cell? ⟨wr.heap.size, 1, none⟩ = some (.int .i64 x.e) ∧ w3.cell? ⟨wr.heap.size, 2, none⟩ = some (.int .i64 x.f) ∧ w3.cell? ⟨wr.heap.size, 3, none⟩ = some (.int .i64 x.o) ∧ w3.cell? ⟨wr.heap.size, 4, none⟩ = some (.bool x.sh) ∧ w3.cell? ⟨wr.heap.size, 5, none⟩ = some (.int .i64 x.pr) ∧ w3.cell? ⟨wr.heap.size, 6, none⟩ = some (.int .i64 x.mx) ∧ w3.cell? ⟨wr.heap.size, 7, none⟩ = some (.int .i64 x.inh) ∧ w3.cell? ⟨wr.heap.size, 8, none⟩ = some (.int .i64 x.adv) ∧ w3.cell? ⟨wr.heap.size, 9, none⟩ = some (.bool x.wi))) ∧ SE w3 (.slice (some ⟨g, off, none⟩) (k + 1) cap) (acc ++ [a]) ∧ Fr (fun _ => False) w w3 ∧ (∀ i, w3.frozen? ⟨g, i, none⟩ = false) ∧ g < w3.heap.size ∧ wr.heap.size < w3.heap.size := fun w3 hf3 => by
          have o3 : ob w3 wr.heap.size = some (.cells #[.int .i64 x.s, .int .i64 x.e, .int .i64 x.f, .int .i64 x.o, .bool x.sh, .int .i64 x.pr, .int .i64 x.mx, .int .i64 x.inh, .int .i64 x.adv, .bool x.wi] 28 (0, 0)) := hf3.keep (fun h => h) (ob_new wr _)
          have hs3 : SE w3 (.slice (some ⟨g, off, none⟩) (k + 1) cap) (acc ++ [a]) := Sl.fr (Sl.drew hsW) hf3 (fun _ _ h => h)
          obtain ⟨g2, off2, n2, cap2, heq2, hgl2, hfz2, hn2, hat⟩ := SE.entry hs3 get_last
          cases heq2
          rw [← HK.out] at hat
          exact ⟨⟨hat, ⟨cell_of_ob o3 0, cell_of_ob o3 1, cell_of_ob o3 2, cell_of_ob o3 3, cell_of_ob o3 4, cell_of_ob o3 5, cell_of_ob o3 6, cell_of_ob o3 7, cell_of_ob o3 8, cell_of_ob o3 9⟩⟩, hs3, ((hf.alloc _).drew).also hf3, hfz2, hgl2, ob_lt o3⟩
        have hS0 := (key _ (Fr.refl _ _)).1
        have KEY := Lib.hid key
        have HSW := Lib.hid hsW
        have hkl : k < k + 1 := Nat.lt_succ_self k
        have hkl2 : (k : Int) < (k : Int) + 1 := by omega
        have hk0 : (0 : Int) ≤ (k : Int) := by omega
        clear hk hkk hn hs hfz hfi hsW oW key
        by_cases ho : onE a x = x
        · have hb : (Ent.mk (onE a x).s (onE a x).e (onE a x).f (onE a x).o (onE a x).sh (onE a x).pr (onE a x).mx (onE a x).inh (onE a x).adv (onE a x).wi).eqb ⟨x.s, x.e, x.f, x.o, x.sh, x.pr, x.mx, x.inh, x.adv, x.wi⟩ = true := Ent.eqb_iff.2 ho
          have HO := Lib.hid ho
          clear ho
          go_wp2_with fail
          go_region_held3 (fun w' => (w'.cell? ⟨g, off + k * 10, none⟩ = some (.int .i64 a.s) ∧ w'.cell? ⟨g, off + k * 10 + 1, none⟩ = some (.int .i64 a.e) ∧ w'.cell? ⟨g, off + k * 10 + 2, none⟩ = some (.int .i64 a.f) ∧ w'.cell? ⟨g, off + k * 10 + 3, none⟩ = some (.int .i64 a.o) ∧ w'.cell? ⟨g, off + k * 10 + 4, none⟩ = some (.bool a.sh) ∧ w'.cell? ⟨g, off + k * 10 + 5, none⟩ = some (.int .i64 a.pr) ∧ w'.cell? ⟨g, off + k * 10 + 6, none⟩ = some (.int .i64 a.mx) ∧ w'.cell? ⟨g, off + k * 10 + 7, none⟩ = some (.int .i64 a.inh) ∧ w'.cell? ⟨g, off + k * 10 + 8, none⟩ = some (.int .i64 a.adv) ∧ w'.cell? ⟨g, off + k * 10 + 9, none⟩ = some (.bool a.wi)) ∧ (w'.cell? ⟨wr.heap.size, 0, none⟩ = some (.int .i64 x.s) ∧ w'.cell? ⟨wr.heap.size, 1, none⟩ = some (.int .i64 x.e) ∧ w'.cell? ⟨wr.heap.size, 2, none⟩ = some (.int .i64 x.f) ∧ w'.cell? ⟨wr.heap.size, 3, none⟩ = some (.int .i64 x.o) ∧ w'.cell? ⟨wr.heap.size, 4, none⟩ = some (.bool x.sh) ∧ w'.cell? ⟨wr.heap.size, 5, none⟩ = some (.int .i64 x.pr) ∧ w'.cell? ⟨wr.heap.size, 6, none⟩ = some (.int .i64 x.mx) ∧ w'.cell? ⟨wr.heap.size, 7, none⟩ = some (.int .i64 x.inh) ∧ w'.cell? ⟨wr.heap.size, 8, none⟩ = some (.int .i64 x.adv) ∧ w'.cell? ⟨wr.heap.size, 9, none⟩ = some (.bool x.wi))) (first | exact hS0 | assumption | go_keep)
            (first
              | (go_at_call 38; refine (on_any a x HG.out _).mono ?_; rintro e w3 ⟨rfl, hf3⟩; obtain ⟨hS2, hs3, hf4, hfz3, hgl3, hbl3⟩ := KEY.out w3 hf3))
          obtain ⟨⟨a0, a1, a2, a3, a4, a5, a6, a7, a8, a9⟩, x0, x1, x2, x3, x4, x5, x6, x7, x8, x9⟩ := hS2
          have fg1 := hfz3 (off + k * 10 + 1)
          clear hfz3 hS0
          go_wp2
          go_roundw
          case rel =>
            have h1 := SE.putEnd hs3 get_last x.e
            rw [set_last, ← HK.out] at h1
            have h2 := HM.out.join HX.out HO.out
            exact ⟨i + 1, acc ++ [joinE a x], by omega, by go_num, h1, Lib.hid h2, by rw [List.length_append, ← HK.out]; simp; omega, hown, hf4.setCell _ _ (.inr (hown g rfl))⟩
          case measure => simp [intOf]; omega
        · have hb : (Ent.mk (onE a x).s (onE a x).e (onE a x).f (onE a x).o (onE a x).sh (onE a x).pr (onE a x).mx (onE a x).inh (onE a x).adv (onE a x).wi).eqb ⟨x.s, x.e, x.f, x.o, x.sh, x.pr, x.mx, x.inh, x.adv, x.wi⟩ = false := by
            cases hq : (Ent.mk (onE a x).s (onE a x).e (onE a x).f (onE a x).o (onE a x).sh (onE a x).pr (onE a x).mx (onE a x).inh (onE a x).adv (onE a x).wi).eqb ⟨x.s, x.e, x.f, x.o, x.sh, x.pr, x.mx, x.inh, x.adv, x.wi⟩ with
            | false => rfl
            | true => exact absurd (Ent.eqb_iff.1 hq) ho
          have HO := Lib.hid ho
          clear ho
          go_wp2_with fail
          go_region_held3 (fun w' => (w'.cell? ⟨g, off + k * 10, none⟩ = some (.int .i64 a.s) ∧ w'.cell? ⟨g, off + k * 10 + 1, none⟩ = some (.int .i64 a.e) ∧ w'.cell? ⟨g, off + k * 10 + 2, none⟩ = some (.int .i64 a.f) ∧ w'.cell? ⟨g, off + k * 10 + 3, none⟩ = some (.int .i64 a.o) ∧ w'.cell? ⟨g, off + k * 10 + 4, none⟩ = some (.bool a.sh) ∧ w'.cell? ⟨g, off + k * 10 + 5, none⟩ = some (.int .i64 a.pr) ∧ w'.cell? ⟨g, off + k * 10 + 6, none⟩ = some (.int .i64 a.mx) ∧ w'.cell? ⟨g, off + k * 10 + 7, none⟩ = some (.int .i64 a.inh) ∧ w'.cell? ⟨g, off + k * 10 + 8, none⟩ = some (.int .i64 a.adv) ∧ w'.cell? ⟨g, off + k * 10 + 9, none⟩ = some (.bool a.wi)) ∧ (w'.cell? ⟨wr.heap.size, 0, none⟩ = some (.int .i64 x.s) ∧ w'.cell? ⟨wr.heap.size, 1, none⟩ = some (.int .i64 x.e) ∧ w'.cell? ⟨wr.heap.size, 2, none⟩ = some (.int .i64 x.f) ∧ w'.cell? ⟨wr.heap.size, 3, none⟩ = some (.int .i64 x.o) ∧ w'.cell? ⟨wr.heap.size, 4, none⟩ = some (.bool x.sh) ∧ w'.cell? ⟨wr.heap.size, 5, none⟩ = some (.int .i64 x.pr) ∧ w'.cell? ⟨wr.heap.size, 6, none⟩ = some (.int .i64 x.mx) ∧ w'.cell? ⟨wr.heap.size, 7, none⟩ = some (.int .i64 x.inh) ∧ w'.cell? ⟨wr.heap.size, 8, none⟩ = some (.int .i64 x.adv) ∧ w'.cell? ⟨wr.heap.size, 9, none⟩ = some (.bool x.wi))) (first | exact hS0 | assumption | go_keep)
            (first
              | (go_at_call 38; refine (on_any a x HG.out _).mono ?_; rintro e w3 ⟨rfl, hf3⟩; obtain ⟨hS2, hs3, hf4, hfz3, hgl3, hbl3⟩ := KEY.out w3 hf3))
          obtain ⟨⟨a0, a1, a2, a3, a4, a5, a6, a7, a8, a9⟩, x0, x1, x2, x3, x4, x5, x6, x7, x8, x9⟩ := hS2
          have HFZ3 := Lib.hid hfz3
          clear hfz3 hS0
          go_upto_region 8 with fail
          go_wp2_with (at_builtin; go_must (refine wpList_app (v := .slice (some ⟨g, off, none⟩) (k + 1) cap) rfl _ _ _ rfl Try.underlying31 hi0 hz0 hzs hzb rfl (by decide) rfl (Sl.alloc hs3 _) _ 1 1 [.int .i64 x.s, .int .i64 x.e, .int .i64 x.f, .int .i64 x.o, .bool x.sh, .int .i64 x.pr, .int .i64 x.mx, .int .i64 x.inh, .int .i64 x.adv, .bool x.wi] rfl (ob_newAt _ _ _ (by simp)) rfl (by simp [Value.oneCell']) (by decide) (by simp only [maxLen, sliceLen] at *; omega) (by simp only [sliceLen] at *; omega) ?_; intro v2 w4 hs2 hf3' ho2 hl2))
          obtain ⟨h1, h2, h3⟩ := app_fin hs2 hf4 ((Fr.refl _ w3).alloc _) hf3' ho2 hown
          go_roundw
          case rel => exact ⟨i + 1, acc ++ [a] ++ [x], by omega, by go_num, h1, Lib.hid (HM.out.app HX.out HO.out), by rw [List.length_append, List.length_append, ← HK.out]; simp; omega, h2, h3⟩
          case measure => simp [intOf]; omega
    · obtain rfl : i = N := by omega
      obtain rfl : out = mergeL l := by have := HM.out; rw [HN.out] at this; exact this.last
      go_wp2
      go_ret
      exact ⟨_, rfl, hs, hf, hown⟩
end Go.Proofs.Ytopglbkcciigbaa
