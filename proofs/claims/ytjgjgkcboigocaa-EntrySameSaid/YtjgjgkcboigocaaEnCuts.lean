/- EntryCuts, walked. No conditions. -/
import Derived.Test.YtjgjgkcboigocaaEnLives
import Derived.Test.YtjgjgkcboigocaaEnInsert
import Derived.Test.YtjgjgkcboigocaaEnRefsD
namespace Go.Proofs.Ytjgjgkcboigocaa
open Go.RowKit
set_option linter.unusedSimpArgs false
set_option linter.unusedVariables false
/-- Same, of a list and itself. -/
theorem same_self {w : World} {A B : Option Addr} {N C M D : Nat} {l : List Ent} (h : SE w (.slice A N C) l) (k : SE w (.slice B M D) l) (hl : l.length ≤ 1000) :
    Calls Try.prog 14 #[.slice A N C, .slice B M D] w fun e w' => e = .returned (.bool true) ∧ Fr (fun _ => False) w w' := by
  have := same_any (Sl.rd h) (Sl.rd k) hl hl
  rwa [decide_eq_true (rfl : l = l)] at this
set_option maxRecDepth 100000 in
set_option maxHeartbeats 8000000 in
theorem cuts_walk (w : World) (A : Option Addr) (N C : Nat) (l : List Ent) (h : Rd w 10 (.slice A N C) (l.flatMap ent)) (q : Ent) (hq : WfE q) (a b : Int) :
    Calls Try.prog 8 #[.slice A N C, .agg #[.int .i64 q.s, .int .i64 q.e, .int .i64 q.f, .int .i64 q.o, .bool q.sh, .int .i64 q.pr, .int .i64 q.mx, .int .i64 q.inh, .int .i64 q.adv, .bool q.wi], .agg #[.int .i64 a, .int .i64 b]] w fun e w' => e = .returned (.bool true) ∧ Fr (fun _ => False) w w' := by
  obtain ⟨rb, hrb⟩ : ∃ rb, rb = (decide (l.length ≤ 100) && rightB 0 l) := ⟨_, rfl⟩
  have hra := fun (W : World) (h : Rd W 10 (.slice A N C) (l.flatMap ent)) => right_any h
  simp only [← hrb] at hra
  have HRAA := Lib.hid hra
  have HQ := Lib.hid hq
  clear hra hq
  obtain ⟨bq, hbq⟩ : ∃ bq, bq = w.heap.size := ⟨_, rfl⟩
  obtain ⟨bx, hbx⟩ : ∃ bx, bx = w.heap.size + 1 := ⟨_, rfl⟩
  obtain ⟨W, hW⟩ : ∃ W, W = (w.alloc (.cells #[.int .i64 q.s, .int .i64 q.e, .int .i64 q.f, .int .i64 q.o, .bool q.sh, .int .i64 q.pr, .int .i64 q.mx, .int .i64 q.inh, .int .i64 q.adv, .bool q.wi] 27)).alloc (.cells #[.int .i64 a, .int .i64 b] 30) := ⟨_, rfl⟩
  have oq : ob W bq = some (.cells #[.int .i64 q.s, .int .i64 q.e, .int .i64 q.f, .int .i64 q.o, .bool q.sh, .int .i64 q.pr, .int .i64 q.mx, .int .i64 q.inh, .int .i64 q.adv, .bool q.wi] 27 (0, 0)) := by rw [hW, hbq, ob_alloc _ _ _ (by simp), ob_new]
  have ox : ob W bx = some (.cells #[.int .i64 a, .int .i64 b] 30 (0, 0)) := by rw [hW, hbx, ob_newAt _ _ _ (by simp)]
  have hfW : Fr (fun _ => False) w W := by rw [hW]; exact ((Fr.refl _ w).alloc _).alloc _
  have hR := h.of hfW (fun _ h => h.elim)
  have keyq : ∀ w3, Fr (fun _ => False) W w3 → (w3.cell? ⟨bq, 0, none⟩ = some (.int .i64 q.s) ∧ w3.cell? ⟨bq, 1, none⟩ = some (.int .i64 q.e) ∧ w3.cell? ⟨bq, 2, none⟩ = some (.int .i64 q.f) ∧ w3.cell? ⟨bq, 3, none⟩ = some (.int .i64 q.o) ∧ w3.cell? ⟨bq, 4, none⟩ = some (.bool q.sh) ∧ w3.cell? ⟨bq, 5, none⟩ = some (.int .i64 q.pr) ∧ w3.cell? ⟨bq, 6, none⟩ = some (.int .i64 q.mx) ∧ w3.cell? ⟨bq, 7, none⟩ = some (.int .i64 q.inh) ∧ w3.cell? ⟨bq, 8, none⟩ = some (.int .i64 q.adv) ∧ w3.cell? ⟨bq, 9, none⟩ = some (.bool q.wi)) ∧ bq < w3.heap.size := fun w3 hf3 => by
    have o3 := hf3.keep (fun h => h) oq
    exact ⟨⟨cell_of_ob o3 0, cell_of_ob o3 1, cell_of_ob o3 2, cell_of_ob o3 3, cell_of_ob o3 4, cell_of_ob o3 5, cell_of_ob o3 6, cell_of_ob o3 7, cell_of_ob o3 8, cell_of_ob o3 9⟩, ob_lt o3⟩
  have keyx : ∀ w3, Fr (fun _ => False) W w3 → (w3.cell? ⟨bx, 0, none⟩ = some (.int .i64 a) ∧ w3.cell? ⟨bx, 1, none⟩ = some (.int .i64 b)) ∧ bx < w3.heap.size ∧ Rd w3 10 (.slice A N C) (l.flatMap ent) := fun w3 hf3 => by
    have o3 := hf3.keep (fun h => h) ox
    exact ⟨⟨cell_of_ob o3 0, cell_of_ob o3 1⟩, ob_lt o3, hR.of hf3 (fun _ h => h.elim)⟩
  have KEYQ := Lib.hid keyq
  have KEYX := Lib.hid keyx
  have HFW := Lib.hid hfW
  clear keyq keyx oq ox hfW
  go_enter Try.func8, Try.ntmps8
  go_wp2_with fail
  change Calls _ _ _ ((w.alloc (.cells #[.int .i64 q.s, .int .i64 q.e, .int .i64 q.f, .int .i64 q.o, .bool q.sh, .int .i64 q.pr, .int .i64 q.mx, .int .i64 q.inh, .int .i64 q.adv, .bool q.wi] 27)).alloc (.cells #[.int .i64 a, .int .i64 b] 30)) _
  rw [← hW, ← hbx, ← hbq]
  clear hW hbq hbx h
  refine (HRAA.out _ hR).mono ?_
  rintro e w1 ⟨rfl, hf1⟩
  cases rb with
  | false =>
    clear hrb
    go_wp2_with fail
    refine (lives_any _).mono ?_
    rintro e w7 ⟨rfl, hf7⟩
    go_wp2
    go_ret
    exact ⟨rfl, (HFW.out.also hf1).also hf7⟩
  | true =>
    have hrb' := hrb.symm
    simp only [Bool.and_eq_true, decide_eq_true_eq] at hrb'
    obtain ⟨hle, hr⟩ := hrb'
    have HR := Lib.hid hr
    have HLE := Lib.hid hle
    have hll := left_len a b hr
    have hgl := gone_len a b hr
    have hml := mergeL_len l
    have hil := insL_len l q
    have hcl := (clipL_len a hr).2
    have HLL := Lib.hid (show (leftL l a b).length ≤ 1000 by omega)
    have HGL := Lib.hid (show (goneL l a b).length ≤ 1000 by omega)
    have HML := Lib.hid (show (mergeL l).length ≤ 1000 by omega)
    have HIL := Lib.hid (show (insL l q).length ≤ 1000 by omega)
    have HCL := Lib.hid (show (clipL l a).length ≤ 1000 by omega)
    have H4 := Lib.hid (show l.length ≤ 400 by omega)
    have H5 := Lib.hid (show l.length ≤ 500 by omega)
    clear hrb hr hle hll hgl hml hil hcl hR
    obtain ⟨⟨x0, x1⟩, sx, hr1⟩ := KEYX.out w1 hf1
    go_wp2_with fail
    refine (cut_any hr1 H4.out HR.out a b).mono ?_
    rintro e w2 ⟨vA, vG, rfl, hsA, hsG, hf2, -, -⟩
    have hf12 := hf1.also hf2
    obtain ⟨⟨y0, y1⟩, sy, hr2⟩ := KEYX.out w2 hf12
    obtain ⟨A1, A2, A3, rfl⟩ := hsA.shape
    obtain ⟨G1, G2, G3, rfl⟩ := hsG.shape
    clear x0 x1 sx hr1 hf1 hf2
    go_wp2_with fail
    refine (rcut_any hr2 H4.out HR.out a b).mono ?_
    rintro e w3 ⟨vB, vO, rfl, hsB, hsO, hf3⟩
    have hf13 := hf12.also hf3
    obtain ⟨⟨z0, z1, z2, z3, z4, z5, z6, z7, z8, z9⟩, sz⟩ := KEYQ.out w3 hf13
    obtain ⟨-, -, hr3⟩ := KEYX.out w3 hf13
    obtain ⟨B1, B2, B3, rfl⟩ := hsB.shape
    obtain ⟨O1, O2, O3, rfl⟩ := hsO.shape
    have hsA := Sl.fr hsA hf3 (fun _ _ h => h)
    have hsG := Sl.fr hsG hf3 (fun _ _ h => h)
    clear y0 y1 sy hr2 hf12 hf3
    obtain ⟨ok, hok⟩ : ∃ ok, ok = insOk l q := ⟨_, rfl⟩
    have hIA := insert_any hr3 H5.out HR.out q HQ.out
    rw [← hok] at hIA
    have HIB := Lib.hid (fun (W : World) (h : Rd W 10 (.slice A N C) (l.flatMap ent)) => rinsert_any h H4.out HR.out q)
    rw [← hok] at HIB
    clear hok
    go_wp2_with fail
    refine hIA.mono ?_
    rintro e w4 ⟨vC, rfl, hsC, hf4, -⟩
    have hf14 := hf13.also hf4
    obtain ⟨⟨u0, u1, u2, u3, u4, u5, u6, u7, u8, u9⟩, su⟩ := KEYQ.out w4 hf14
    obtain ⟨-, -, hr4⟩ := KEYX.out w4 hf14
    obtain ⟨C1, C2, C3, rfl⟩ := hsC.shape
    have hsA := Sl.fr hsA hf4 (fun _ _ h => h)
    have hsG := Sl.fr hsG hf4 (fun _ _ h => h)
    have hsB := Sl.fr hsB hf4 (fun _ _ h => h)
    have hsO := Sl.fr hsO hf4 (fun _ _ h => h)
    clear z0 z1 z2 z3 z4 z5 z6 z7 z8 z9 sz hr3 hf13 hf4 hIA
    go_wp2_with fail
    refine (HIB.out _ hr4).mono ?_
    rintro e w5 ⟨vD, rfl, hsD, hf5⟩
    have hf15 := hf14.also hf5
    obtain ⟨D1, D2, D3, rfl⟩ := hsD.shape
    have HSA := Lib.hid (Sl.fr hsA hf5 (fun _ _ h => h))
    have HSG := Lib.hid (Sl.fr hsG hf5 (fun _ _ h => h))
    have HSB := Lib.hid (Sl.fr hsB hf5 (fun _ _ h => h))
    have HSO := Lib.hid (Sl.fr hsO hf5 (fun _ _ h => h))
    have HSC := Lib.hid (Sl.fr hsC hf5 (fun _ _ h => h))
    have HSD := Lib.hid hsD
    have key : ∀ w6, Fr (fun _ => False) w5 w6 → (w6.cell? ⟨bx, 0, none⟩ = some (.int .i64 a) ∧ w6.cell? ⟨bx, 1, none⟩ = some (.int .i64 b)) ∧ bx < w6.heap.size ∧ Rd w6 10 (.slice A N C) (l.flatMap ent) ∧ Fr (fun _ => False) w w6 := fun w6 h6 => by
      obtain ⟨k1, k2, k3⟩ := KEYX.out w6 (hf15.also h6)
      exact ⟨k1, k2, k3, (HFW.out.also hf15).also h6⟩
    obtain ⟨hS0, hs5, -, -⟩ := key w5 (Fr.refl _ _)
    have KEY := Lib.hid key
    clear u0 u1 u2 u3 u4 u5 u6 u7 u8 u9 su hr4 hf14 hf5 hsA hsB hsC hsD hsG hsO key hf15
    go_wp2_with fail
    go_region_held3 (fun w' => w'.cell? ⟨bx, 0, none⟩ = some (.int .i64 a) ∧ w'.cell? ⟨bx, 1, none⟩ = some (.int .i64 b)) (first | exact hS0 | assumption | go_keep)
      (first
        | (go_at_call_of 14 (Value.slice A1 A2 A3); refine (same_self (Sl.drew HSA.out) (Sl.drew HSB.out) HLL.out).mono ?_; rintro e w6 ⟨rfl, hf6⟩; have hf6' := ((Fr.refl (fun _ => False) w5).drew).also hf6; obtain ⟨hS6, hs6, -, -⟩ := KEY.out w6 hf6')
        | (go_at_call_of 14 (Value.slice G1 G2 G3); refine (same_self (Sl.fr HSG.out hf6' (fun _ _ h => h)) (Sl.fr HSO.out hf6' (fun _ _ h => h)) HGL.out).mono ?_; rintro e w7 ⟨rfl, hf7⟩; have hf7' := hf6'.also hf7; obtain ⟨hS7, hs7, -, -⟩ := KEY.out w7 hf7')
        | (go_at_call_of 14 (Value.slice C1 C2 C3); refine (same_self (Sl.fr HSC.out hf7' (fun _ _ h => h)) (Sl.fr HSD.out hf7' (fun _ _ h => h)) HIL.out).mono ?_; rintro e w8 ⟨rfl, hf8⟩; have hf8' := hf7'.also hf8; obtain ⟨hS8, hs8, hr8, -⟩ := KEY.out w8 hf8')
        | (go_at_call 13; refine (clip_any hr8 H5.out HR.out a).mono ?_; rintro e w9 ⟨v9, rfl, hk9, hf9, -⟩; have hf9' := hf8'.also hf9; obtain ⟨hS9, hs9, hr9, -⟩ := KEY.out w9 hf9'; obtain ⟨I1, I2, I3, rfl⟩ := hk9.shape)
        | (go_at_call 30; refine (rclip_any hr9 H5.out HR.out a).mono ?_; rintro e w10 ⟨v10, rfl, hk10, hf10, -⟩; have hf10' := hf9'.also hf10; obtain ⟨hS10, hs10, hr10, -⟩ := KEY.out w10 hf10'; obtain ⟨J1, J2, J3, rfl⟩ := hk10.shape)
        | (go_at_call_of 14 (Value.slice I1 I2 I3); refine (same_self (Sl.fr hk9 hf10 (fun _ _ h => h)) hk10 HCL.out).mono ?_; rintro e w11 ⟨rfl, hf11⟩; have hf11' := hf10'.also hf11; obtain ⟨hS11, hs11, hr11, -⟩ := KEY.out w11 hf11')
        | (go_at_call 26; refine (merge_any hr11 H5.out HR.out).mono ?_; rintro e w12 ⟨v12, rfl, hk12, hf12, -⟩; have hf12' := hf11'.also hf12; obtain ⟨hS12, hs12, hr12, -⟩ := KEY.out w12 hf12'; obtain ⟨K1, K2, K3, rfl⟩ := hk12.shape)
        | (go_at_call 31; refine (rmerge_any hr12 H5.out HR.out).mono ?_; rintro e w13 ⟨v13, rfl, hk13, hf13, -⟩; have hf13' := hf12'.also hf13; obtain ⟨hS13, hs13, hr13, -⟩ := KEY.out w13 hf13'; obtain ⟨L1, L2, L3, rfl⟩ := hk13.shape)
        | (go_at_call_of 14 (Value.slice K1 K2 K3); refine (same_self (Sl.fr hk12 hf13 (fun _ _ h => h)) hk13 HML.out).mono ?_; rintro e w14 ⟨rfl, hf14⟩; have hf14' := hf13'.also hf14; obtain ⟨hS14, hs14, hr14, -⟩ := KEY.out w14 hf14')
        | (go_at_call 12; refine (lives_any _).mono ?_; rintro e w15 ⟨rfl, hf15⟩; have hf15' := hf14'.also hf15; obtain ⟨hS15, hs15, hr15, hf0⟩ := KEY.out w15 hf15'))
    go_wp2
    go_ret
    exact ⟨rfl, hf0⟩
end Go.Proofs.Ytjgjgkcboigocaa
