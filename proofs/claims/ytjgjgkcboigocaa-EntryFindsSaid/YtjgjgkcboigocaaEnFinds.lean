/- EntryFinds, walked. No conditions. -/
import Derived.Test.YtjgjgkcboigocaaEnLives
import Derived.Test.YtjgjgkcboigocaaEnFindR
namespace Go.Proofs.Ytjgjgkcboigocaa
open Go.RowKit
set_option linter.unusedSimpArgs false
set_option linter.unusedVariables false
set_option maxRecDepth 100000 in
set_option maxHeartbeats 4000000 in
theorem finds_walk (w : World) (A : Option Addr) (N C : Nat) (l : List Ent) (h : Rd w 10 (.slice A N C) (l.flatMap ent)) (hC : N ≤ C ∧ C ≤ maxLen) (a b : Int) :
    Calls Try.prog 4 #[.slice A N C, .agg #[.int .i64 a, .int .i64 b]] w fun e w' => e = .returned (.bool true) ∧ Fr (fun _ => False) w w' := by
  obtain ⟨rb, hrb⟩ : ∃ rb, rb = (decide (l.length ≤ 100) && rightB 0 l) := ⟨_, rfl⟩
  have hra := fun (W : World) (h : Rd W 10 (.slice A N C) (l.flatMap ent)) => right_any h
  simp only [← hrb] at hra
  have HC := Lib.hid hC
  have HRAA := Lib.hid hra
  clear hC hra
  obtain ⟨bx, hbx⟩ : ∃ bx, bx = w.heap.size := ⟨_, rfl⟩
  obtain ⟨W, hW⟩ : ∃ W, W = w.alloc (.cells #[.int .i64 a, .int .i64 b] 30) := ⟨_, rfl⟩
  have oW : ob W bx = some (.cells #[.int .i64 a, .int .i64 b] 30 (0, 0)) := by rw [hW, hbx]; exact ob_new _ _
  have hfW : Fr (fun _ => False) w W := by rw [hW]; exact (Fr.refl _ w).alloc _
  have hR := h.of hfW (fun _ h => h.elim)
  go_enter Try.func4, Try.ntmps4
  go_wp2_with fail
  change Calls _ _ _ (w.alloc (.cells #[.int .i64 a, .int .i64 b] 30)) _
  rw [← hW, ← hbx]
  clear hW hbx
  refine (HRAA.out _ hR).mono ?_
  rintro e w1 ⟨rfl, hf1⟩
  cases rb with
  | false =>
    clear hrb
    go_wp2_with fail
    refine (lives_any _).mono ?_
    rintro e w7 ⟨rfl, hf7⟩
    go_wp2
    go_ret
    exact ⟨rfl, (hfW.also hf1).also hf7⟩
  | true =>
    have hrb' := hrb.symm
    simp only [Bool.and_eq_true, decide_eq_true_eq] at hrb'
    obtain ⟨hle, hr⟩ := hrb'
    have hr1 := hR.of hf1 (fun _ h => h.elim)
    have o1 := hf1.keep (fun h => h) oW
    have HR := Lib.hid hr
    have HLE := Lib.hid hle
    have HE := Lib.hid (ends_of_right hr)
    clear hrb hr hle hR h oW
    have e0 : w1.cell? ⟨bx, 0, none⟩ = some (.int .i64 a) := cell_of_ob o1 0
    have e1 : w1.cell? ⟨bx, 1, none⟩ = some (.int .i64 b) := cell_of_ob o1 1
    have s1 := ob_lt o1
    go_wp2_with fail
    refine (find_any hr1 (by have := HLE.out; omega) HE.out a).mono ?_
    rintro e w2 ⟨rfl, hf2⟩
    have hr2 := hr1.of hf2 (fun _ h => h.elim)
    have o2 := hf2.keep (fun h => h) o1
    have e0' : w2.cell? ⟨bx, 0, none⟩ = some (.int .i64 a) := cell_of_ob o2 0
    have e1' : w2.cell? ⟨bx, 1, none⟩ = some (.int .i64 b) := cell_of_ob o2 1
    have s2 := ob_lt o2
    clear e0 e1 s1 hr1 o1
    go_wp2_with fail
    refine (rfind_any hr2 (by have := HLE.out; omega) a).mono ?_
    rintro e w3 ⟨rfl, hf3⟩
    have hr3 := hr2.of hf3 (fun _ h => h.elim)
    have o3 := hf3.keep (fun h => h) o2
    have e0 : w3.cell? ⟨bx, 0, none⟩ = some (.int .i64 a) := cell_of_ob o3 0
    have e1 : w3.cell? ⟨bx, 1, none⟩ = some (.int .i64 b) := cell_of_ob o3 1
    have s1 := ob_lt o3
    clear e0' e1' s2 hr2 o2
    go_wp2_with fail
    refine (space_any hr3 (by have := HLE.out; omega) HR.out HC.out a b).mono ?_
    rintro e w4 ⟨rfl, hf4⟩
    have hr4 := hr3.of hf4 (fun _ h => h.elim)
    have o4 := hf4.keep (fun h => h) o3
    have e0' : w4.cell? ⟨bx, 0, none⟩ = some (.int .i64 a) := cell_of_ob o4 0
    have e1' : w4.cell? ⟨bx, 1, none⟩ = some (.int .i64 b) := cell_of_ob o4 1
    have s2 := ob_lt o4
    clear e0 e1 s1 hr3 o3
    go_wp2_with fail
    refine (rspace_any hr4 (by have := HLE.out; omega) HR.out a b).mono ?_
    rintro e w5 ⟨rfl, hf5⟩
    have hr5 := hr4.of hf5 (fun _ h => h.elim)
    have o5 := hf5.keep (fun h => h) o4
    have hf05 := ((((hfW.also hf1).also hf2).also hf3).also hf4).also hf5
    obtain ⟨fi, hfi⟩ : ∃ fi, fi = fidx l a := ⟨_, rfl⟩
    obtain ⟨ok, hok⟩ : ∃ ok, ok = fok l a := ⟨_, rfl⟩
    obtain ⟨sp, hsp⟩ : ∃ sp, sp = spaceF l a b := ⟨_, rfl⟩
    obtain ⟨wh, hwh⟩ : ∃ wh, wh = wholeR l a b := ⟨_, rfl⟩
    rw [← hfi, ← hok, ← hsp]
    have HWA := Lib.hid (fun (W : World) (h : Rd W 10 (.slice A N C) (l.flatMap ent)) => whole_any h (by have := HLE.out; omega) HR.out a b)
    have HWB := Lib.hid (fun (W : World) (h : Rd W 10 (.slice A N C) (l.flatMap ent)) => rwhole_any h (by have := HLE.out; omega) HR.out a b)
    rw [← hwh] at HWA HWB
    clear hfi hok hsp hwh e0' e1' s2 hr4 o4 hf1 hf2 hf3 hf4 hf5
    have key : ∀ w6, Fr (fun _ => False) w5 w6 → (w6.cell? ⟨bx, 0, none⟩ = some (.int .i64 a) ∧ w6.cell? ⟨bx, 1, none⟩ = some (.int .i64 b)) ∧ bx < w6.heap.size := fun w6 h6 => by
      have o6 := h6.keep (fun h => h) o5
      exact ⟨⟨cell_of_ob o6 0, cell_of_ob o6 1⟩, ob_lt o6⟩
    have hS0 := (key _ (Fr.refl _ _)).1
    have hs5 := (key _ (Fr.refl _ _)).2
    have KEY := Lib.hid key
    clear key o5
    go_wp2_with fail
    go_region_held3 (fun w' => w'.cell? ⟨bx, 0, none⟩ = some (.int .i64 a) ∧ w'.cell? ⟨bx, 1, none⟩ = some (.int .i64 b)) (first | exact hS0 | assumption | go_keep)
      (first
        | (go_at_call 19; refine (HWA.out _ (hr5.of (Fr.refl (fun _ => False) w5).drew (fun _ h => h.elim))).mono ?_; rintro e w6 ⟨rfl, hf6⟩; have hf6' := ((Fr.refl (fun _ => False) w5).drew).also hf6; obtain ⟨hS6, hs6⟩ := KEY.out w6 hf6')
        | (go_at_call 20; refine (HWB.out _ (hr5.of hf6' (fun _ h => h.elim))).mono ?_; rintro e w7 ⟨rfl, hf7⟩; have hf7' := hf6'.also hf7; obtain ⟨hS7, hs7⟩ := KEY.out w7 hf7')
        | (go_at_call 12; refine (lives_any _).mono ?_; rintro e w8 ⟨rfl, hf8⟩; have hf8' := hf7'.also hf8; obtain ⟨hS8, hs8⟩ := KEY.out w8 hf8'))
    go_wp2
    go_ret
    exact ⟨rfl, hf05.also hf8'⟩
end Go.Proofs.Ytjgjgkcboigocaa
