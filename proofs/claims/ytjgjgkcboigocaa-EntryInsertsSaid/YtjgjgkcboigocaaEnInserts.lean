/- EntryInserts, walked. No conditions. -/
import Derived.Test.YtjgjgkcboigocaaEnLives
import Derived.Test.YtjgjgkcboigocaaEnInsert
namespace Go.Proofs.Ytjgjgkcboigocaa
open Go.RowKit
set_option linter.unusedSimpArgs false
set_option linter.unusedVariables false
theorem all_take {l : List Ent} {e x : Ent} {i : Nat} (hx : l[i]? = some x) : (l.take (i + 1)).all (apart e) = ((l.take i).all (apart e) && apart e x) := by
  rw [List.take_add_one, hx]; simp
set_option maxRecDepth 100000 in
set_option maxHeartbeats 4000000 in
theorem inserts_walk (w : World) (A : Option Addr) (N C : Nat) (l : List Ent) (h : Rd w 10 (.slice A N C) (l.flatMap ent)) (hw : ∀ x ∈ l, WfE x) (q : Ent) (hq : WfE q) :
    Calls Try.prog 6 #[.slice A N C, .agg #[.int .i64 q.s, .int .i64 q.e, .int .i64 q.f, .int .i64 q.o, .bool q.sh, .int .i64 q.pr, .int .i64 q.mx, .int .i64 q.inh, .int .i64 q.adv, .bool q.wi]] w fun e w' => e = .returned (.bool true) ∧ Fr (fun _ => False) w w' := by
  obtain ⟨rb, hrb⟩ : ∃ rb, rb = (decide (l.length ≤ 100) && rightB 0 l) := ⟨_, rfl⟩
  have hra := fun (W : World) (h : Rd W 10 (.slice A N C) (l.flatMap ent)) => right_any h
  simp only [← hrb] at hra
  have hN : N = l.length := h.elen
  have HN := Lib.hid hN
  have HRAA := Lib.hid hra
  have HW := Lib.hid hw
  have HQ := Lib.hid hq
  clear hra hN hw hq
  obtain ⟨bq, hbq⟩ : ∃ bq, bq = w.heap.size := ⟨_, rfl⟩
  obtain ⟨W, hW⟩ : ∃ W, W = w.alloc (.cells #[.int .i64 q.s, .int .i64 q.e, .int .i64 q.f, .int .i64 q.o, .bool q.sh, .int .i64 q.pr, .int .i64 q.mx, .int .i64 q.inh, .int .i64 q.adv, .bool q.wi] 27) := ⟨_, rfl⟩
  have oW : ob W bq = some (.cells #[.int .i64 q.s, .int .i64 q.e, .int .i64 q.f, .int .i64 q.o, .bool q.sh, .int .i64 q.pr, .int .i64 q.mx, .int .i64 q.inh, .int .i64 q.adv, .bool q.wi] 27 (0, 0)) := by rw [hW, hbq]; exact ob_new _ _
  have hfW : Fr (fun _ => False) w W := by rw [hW]; exact (Fr.refl _ w).alloc _
  have hR := h.of hfW (fun _ h => h.elim)
  have key : ∀ w3, Fr (fun _ => False) W w3 → (w3.cell? ⟨bq, 0, none⟩ = some (.int .i64 q.s) ∧ w3.cell? ⟨bq, 1, none⟩ = some (.int .i64 q.e) ∧ w3.cell? ⟨bq, 2, none⟩ = some (.int .i64 q.f) ∧ w3.cell? ⟨bq, 3, none⟩ = some (.int .i64 q.o) ∧ w3.cell? ⟨bq, 4, none⟩ = some (.bool q.sh) ∧ w3.cell? ⟨bq, 5, none⟩ = some (.int .i64 q.pr) ∧ w3.cell? ⟨bq, 6, none⟩ = some (.int .i64 q.mx) ∧ w3.cell? ⟨bq, 7, none⟩ = some (.int .i64 q.inh) ∧ w3.cell? ⟨bq, 8, none⟩ = some (.int .i64 q.adv) ∧ w3.cell? ⟨bq, 9, none⟩ = some (.bool q.wi)) ∧ bq < w3.heap.size ∧ Fr (fun _ => False) w w3 ∧ Rd w3 10 (.slice A N C) (l.flatMap ent) := fun w3 hf3 => by
    have o3 : ob w3 bq = some (.cells #[.int .i64 q.s, .int .i64 q.e, .int .i64 q.f, .int .i64 q.o, .bool q.sh, .int .i64 q.pr, .int .i64 q.mx, .int .i64 q.inh, .int .i64 q.adv, .bool q.wi] 27 (0, 0)) := hf3.keep (fun h => h) oW
    exact ⟨⟨cell_of_ob o3 0, cell_of_ob o3 1, cell_of_ob o3 2, cell_of_ob o3 3, cell_of_ob o3 4, cell_of_ob o3 5, cell_of_ob o3 6, cell_of_ob o3 7, cell_of_ob o3 8, cell_of_ob o3 9⟩, ob_lt o3, hfW.also hf3, hR.of hf3 (fun _ h => h.elim)⟩
  have KEY := Lib.hid key
  clear key oW
  go_enter Try.func6, Try.ntmps6
  go_wp2_with fail
  change Calls _ _ _ (w.alloc (.cells #[.int .i64 q.s, .int .i64 q.e, .int .i64 q.f, .int .i64 q.o, .bool q.sh, .int .i64 q.pr, .int .i64 q.mx, .int .i64 q.inh, .int .i64 q.adv, .bool q.wi] 27)) _
  rw [← hW, ← hbq]
  clear hW hbq
  refine (HRAA.out _ hR).mono ?_
  rintro e w1 ⟨rfl, hf1⟩
  cases rb with
  | false =>
    clear hrb
    go_wp2_with fail
    refine (lives_any _).mono ?_
    rintro e w7 ⟨rfl, hf7⟩
    go_wp2
    go_ret
    exact ⟨rfl, (hfW.also hf1).also hf7⟩
  | true =>
    have hrb' := hrb.symm
    simp only [Bool.and_eq_true, decide_eq_true_eq] at hrb'
    obtain ⟨hle, hr⟩ := hrb'
    have hN5 : N ≤ 100 := by rw [HN.out]; exact hle
    have HR := Lib.hid hr
    have HLE := Lib.hid hle
    obtain ⟨⟨c0, c1, c2, c3, c4, c5, c6, c7, c8, c9⟩, s1, -, hr1⟩ := KEY.out w1 hf1
    have HIN := Lib.hid (fun W (h : Rd W 10 (.slice A N C) (l.flatMap ent)) => insert_any h (by omega) hr q HQ.out)
    obtain ⟨ok, hok⟩ : ∃ ok, ok = insOk l q := ⟨_, rfl⟩
    obtain ⟨m, hm⟩ : ∃ m, m = insL l q := ⟨_, rfl⟩
    obtain ⟨gb, hgb⟩ : ∃ gb, gb = goodB q := ⟨_, rfl⟩
    have HGA := Lib.hid (fun W => good_any q HQ.out W)
    rw [← hok, ← hm] at HIN
    rw [← hgb] at HGA
    have HOK := Lib.hid hok
    have HM := Lib.hid hm
    have HGB := Lib.hid hgb
    clear hrb hr hle hR h hok hm hgb
    go_wp2_with fail
    refine (HIN.out _ hr1).mono ?_
    rintro e w2 ⟨v2, rfl, hs2, hf2, ho2⟩
    have hf12 := hf1.also hf2
    obtain ⟨⟨d0, d1, d2, d3, d4, d5, d6, d7, d8, d9⟩, s2, -, hr2⟩ := KEY.out w2 hf12
    obtain ⟨B, M, D, rfl⟩ := hs2.shape
    have hM : M = m.length := SE.elen hs2
    have HMN := Lib.hid hM
    have HS2 := Lib.hid hs2
    clear c0 c1 c2 c3 c4 c5 c6 c7 c8 c9 s1 hr1 hM hs2 ho2
    go_wp2_with fail
    refine (HGA.out _).mono ?_
    rintro e w3 ⟨rfl, hf3⟩
    have hf13 := hf12.also hf3
    obtain ⟨⟨c0, c1, c2, c3, c4, c5, c6, c7, c8, c9⟩, s1, hf03, hr3⟩ := KEY.out w3 hf13
    have hs3 := Sl.fr HS2.out hf3 (fun _ _ h => h)
    have HS3 := Lib.hid hs3
    have hmlen : m.length ≤ 101 := by have := insL_len l q; have := HM.out; have := HLE.out; rw [HM.out]; omega
    have HML := Lib.hid hmlen
    clear d0 d1 d2 d3 d4 d5 d6 d7 d8 d9 s2 hr2 hs3 hmlen HS2
    cases gb with
    | false =>
      obtain rfl : ok = false := by rw [HOK.out]; unfold insOk; rw [← HGB.out]; rfl
      have hml : m = l := by rw [HM.out]; unfold insL; rw [← HOK.out]; rfl
      have hsm := same_any (Sl.rd HS3.out) hr3 (by have := HML.out; omega) (by have := HLE.out; omega)
      rw [hml, decide_eq_true (rfl : l = l)] at hsm
      clear hml c0 c1 c2 c3 c4 c5 c6 c7 c8 c9 s1
      go_wp2_with fail
      refine hsm.mono ?_
      rintro e w4 ⟨rfl, hf4⟩
      go_wp2_with fail
      refine (lives_any _).mono ?_
      rintro e w7 ⟨rfl, hf7⟩
      go_wp2
      go_ret
      exact ⟨rfl, (hf03.also hf4).also hf7⟩
    | true =>
    have hgd := goodE_of HGB.out.symm
    have hse := hgd.se
    have HGD := Lib.hid hgd
    clear hgd hse
    go_wp2_with fail
    go_loopw [7, 37] (fun s v wr => ∃ (i : Nat) (fb : Bool), i ≤ N ∧ v = .int .i64 i ∧ s = .bool fb ∧ Hid (fb = (l.take i).all (apart q)) ∧ Fr (fun _ => False) w3 wr) (fun _ v _ => N - (intOf v).toNat)
    case atStart => exact ⟨0, true, by omega, rfl, rfl, Lib.hid (by simp), Fr.refl _ _⟩
    case round =>
      obtain ⟨i, fb, hi, rfl, rfl, HFB, hf⟩ := hrel
      obtain ⟨⟨d0, d1, d2, d3, d4, d5, d6, d7, d8, d9⟩, s2, hf0r, hrr⟩ := KEY.out wr (hf13.also hf)
      clear c0 c1 c2 c3 c4 c5 c6 c7 c8 c9 s1 hr3
      by_cases hlt : i < N
      · obtain ⟨x, hx⟩ : ∃ x, l[i]? = some x := ⟨_, List.getElem?_eq_getElem (by have := HN.out; omega)⟩
        obtain ⟨g, off, n', cap', heq, hgl, -, c0, c1, c2, c3, c4, c5, c6, c7, c8, c9⟩ := hrr.entry hx
        cases heq
        have HST := Lib.hid (all_take (e := q) hx)
        have hfa : Fr (fun _ => False) w3 (wr.alloc (.cells #[.int .i64 x.s, .int .i64 x.e, .int .i64 x.f, .int .i64 x.o, .bool x.sh, .int .i64 x.pr, .int .i64 x.mx, .int .i64 x.inh, .int .i64 x.adv, .bool x.wi] 27)) := hf.alloc _
        clear hx hrr
        cases fb with
        | false =>
          go_wp2
          go_roundw
          case rel => exact ⟨i + 1, false, by omega, by go_num, rfl, Lib.hid (by rw [HST.out, ← HFB.out]; rfl), hfa⟩
          case measure => simp [intOf]; omega
        | true =>
          by_cases h1 : x.e ≤ q.s
          · go_wp2
            go_roundw
            case rel => exact ⟨i + 1, true, by omega, by go_num, rfl, Lib.hid (by rw [HST.out, ← HFB.out]; unfold apart; rw [decide_eq_true h1]; rfl), hfa⟩
            case measure => simp [intOf]; omega
          · have h1' : decide (x.e ≤ q.s) = false := decide_eq_false h1
            have H1 := Lib.hid h1'
            clear h1'
            go_wp2
            go_roundw
            case rel => exact ⟨i + 1, decide (q.e ≤ x.s), by omega, by go_num, rfl, Lib.hid (by rw [HST.out, ← HFB.out]; unfold apart; rw [H1.out]; rfl), hfa⟩
            case measure => simp [intOf]; omega
      · obtain rfl : i = N := by omega
        have hall : fb = ok := by
          rw [HFB.out, List.take_of_length_le (by rw [HN.out]; exact Nat.le_refl _), HOK.out]
          unfold insOk
          rw [← HGB.out, freeB_all HGD.out.se HR.out]; rfl
        subst hall
        have hs4 := Sl.fr HS3.out hf (fun _ _ h => h)
        have HS4 := Lib.hid hs4
        clear hs4
        cases fb with
        | false =>
          have hml : m = l := by rw [HM.out]; unfold insL; rw [← HOK.out]; rfl
          have hsm := same_any (Sl.rd HS4.out) hrr (by have := HML.out; omega) (by have := HLE.out; omega)
          rw [hml, decide_eq_true (rfl : l = l)] at hsm
          clear hml d0 d1 d2 d3 d4 d5 d6 d7 d8 d9 s2
          go_wp2_with fail
          refine hsm.mono ?_
          rintro e w5 ⟨rfl, hf5⟩
          go_wp2_with fail
          refine (lives_any _).mono ?_
          rintro e w7 ⟨rfl, hf7⟩
          go_wp2
          go_ret
          exact ⟨rfl, (hf0r.also hf5).also hf7⟩
        | true =>
          have hm1 : m = insAt l q := by rw [HM.out]; unfold insL; rw [← HOK.out]; rfl
          have hrm : rightB 0 m = true := by rw [HM.out]; exact right_insL HR.out
          obtain ⟨hfi, hat⟩ := ins_find HGD.out.se l
          rw [← hm1] at hfi hat
          obtain ⟨k, hk⟩ : ∃ k, k = fidx l q.s := ⟨_, rfl⟩
          rw [← hk] at hfi hat
          have hfok : fok m q.s = true := by unfold fok; rw [hfi, hat]; exact decide_eq_true (Int.le_refl _)
          have hfd := find_any (Sl.rd HS4.out) (by have := HML.out; omega) (ends_of_right hrm) q.s
          rw [hfi, hfok] at hfd
          have hkM : k < M := by have := (List.getElem?_eq_some_iff.1 hat).1; have := HMN.out; omega
          have hMN : M = i + 1 := by rw [HMN.out, hm1, insAt_len, HN.out]
          have hwm : ∀ x ∈ m, WfE x := fun x hx => by
            rw [hm1] at hx
            rcases insAt_mem hx with rfl | hx
            · exact HQ.out
            · exact HW.out x hx
          have her := fun W (h : Rd W 10 (.slice B M D) (m.flatMap ent)) => eright_any h (by have := HML.out; omega) hwm
          rw [hrm] at her
          have HER := Lib.hid her
          have HAT := Lib.hid hat
          have hMi : (i : Int) + 1 = (M : Int) := by omega
          have hM6 : M ≤ 101 := by omega
          have hkI : (k : Int) < (M : Int) := by omega
          clear hm1 hrm hfi hat hk hfok hwm her hrr hMN
          go_wp2_with fail
          refine hfd.mono ?_
          rintro e w5 ⟨rfl, hf5⟩
          clear hfd d0 d1 d2 d3 d4 d5 d6 d7 d8 d9 s2
          have hb : (Ent.mk q.s q.e q.f q.o q.sh q.pr q.mx q.inh q.adv q.wi).eqb ⟨q.s, q.e, q.f, q.o, q.sh, q.pr, q.mx, q.inh, q.adv, q.wi⟩ = true := Ent.eqb_iff.2 rfl
          obtain ⟨g, off, n, cap, heq, hgl, -, -, -⟩ := SE.entry HS4.out HAT.out
          cases heq
          have key2 : ∀ w6, Fr (fun _ => False) w5 w6 → ((w6.cell? ⟨g, off + k * 10, none⟩ = some (.int .i64 q.s) ∧ w6.cell? ⟨g, off + k * 10 + 1, none⟩ = some (.int .i64 q.e) ∧ w6.cell? ⟨g, off + k * 10 + 2, none⟩ = some (.int .i64 q.f) ∧ w6.cell? ⟨g, off + k * 10 + 3, none⟩ = some (.int .i64 q.o) ∧ w6.cell? ⟨g, off + k * 10 + 4, none⟩ = some (.bool q.sh) ∧ w6.cell? ⟨g, off + k * 10 + 5, none⟩ = some (.int .i64 q.pr) ∧ w6.cell? ⟨g, off + k * 10 + 6, none⟩ = some (.int .i64 q.mx) ∧ w6.cell? ⟨g, off + k * 10 + 7, none⟩ = some (.int .i64 q.inh) ∧ w6.cell? ⟨g, off + k * 10 + 8, none⟩ = some (.int .i64 q.adv) ∧ w6.cell? ⟨g, off + k * 10 + 9, none⟩ = some (.bool q.wi)) ∧ (w6.cell? ⟨bq, 0, none⟩ = some (.int .i64 q.s) ∧ w6.cell? ⟨bq, 1, none⟩ = some (.int .i64 q.e) ∧ w6.cell? ⟨bq, 2, none⟩ = some (.int .i64 q.f) ∧ w6.cell? ⟨bq, 3, none⟩ = some (.int .i64 q.o) ∧ w6.cell? ⟨bq, 4, none⟩ = some (.bool q.sh) ∧ w6.cell? ⟨bq, 5, none⟩ = some (.int .i64 q.pr) ∧ w6.cell? ⟨bq, 6, none⟩ = some (.int .i64 q.mx) ∧ w6.cell? ⟨bq, 7, none⟩ = some (.int .i64 q.inh) ∧ w6.cell? ⟨bq, 8, none⟩ = some (.int .i64 q.adv) ∧ w6.cell? ⟨bq, 9, none⟩ = some (.bool q.wi))) ∧ g < w6.heap.size ∧ bq < w6.heap.size ∧ SE w6 (.slice (some ⟨g, off, none⟩) M D) m ∧ Fr (fun _ => False) w w6 := fun w6 hf6 => by
            have hs6 := Sl.fr HS4.out (hf5.also hf6) (fun _ _ h => h)
            obtain ⟨g2, off2, n2, cap2, heq2, hgl2, -, -, hat2⟩ := SE.entry hs6 HAT.out
            cases heq2
            obtain ⟨hq2, hb2, -, -⟩ := KEY.out w6 (((hf13.also hf).also hf5).also hf6)
            exact ⟨⟨hat2, hq2⟩, hgl2, hb2, hs6, (hf0r.also hf5).also hf6⟩
          obtain ⟨hS0, hg5, hb5, -, -⟩ := key2 w5 (Fr.refl _ _)
          have KEY2 := Lib.hid key2
          clear key2 hgl
          go_wp2_with fail
          refine wp_region_canon [0, 1, 2, 3, 4, 5, 6, 7, 8, 9, 10, 11, 12, 13, 14, 15, 16, 17, 18, 19, 20, 21, 22, 23, 24, 25, 26, 27, 28, 29, 30] (by kernel_rfl) (by kernel_rfl) (fun K hK => ?_)
          simp only [List.map_cons, List.map_nil, List.getD_cons_succ, List.getD_cons_zero]
          obtain ⟨⟨a0, a1, a2, a3, a4, a5, a6, a7, a8, a9⟩, x0, x1, x2, x3, x4, x5, x6, x7, x8, x9⟩ := hS0
          go_wp2_with fail
          refine (HER.out _ (Sl.rd (Sl.drew (KEY2.out w5 (Fr.refl _ _)).2.2.2.1))).mono ?_
          rintro e w6 ⟨rfl, hf6⟩
          have hf6' := ((Fr.refl (fun _ => False) w5).drew).also hf6
          go_wp2_with fail
          refine (lives_any _).mono ?_
          rintro e w8 ⟨rfl, hf8⟩
          obtain ⟨-, -, -, -, hf08⟩ := KEY2.out w8 (hf6'.also hf8)
          go_wp2
          refine hK _ _ (by kernel_rfl) ?_
          clear hK K
          go_wp2
          go_ret
          exact ⟨rfl, hf08⟩
end Go.Proofs.Ytjgjgkcboigocaa
