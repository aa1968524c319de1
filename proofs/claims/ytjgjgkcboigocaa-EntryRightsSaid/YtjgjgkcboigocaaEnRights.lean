/- EntryRights, walked. No conditions. -/
import Derived.Test.YtjgjgkcboigocaaEnLives
import Derived.Test.YtjgjgkcboigocaaEnGoodE
namespace Go.Proofs.Ytjgjgkcboigocaa
open Go.RowKit
set_option linter.unusedSimpArgs false
set_option linter.unusedVariables false
set_option maxRecDepth 100000 in
set_option maxHeartbeats 4000000 in
theorem rights_walk (w : World) (A : Option Addr) (N C : Nat) (l : List Ent) (h : Rd w 10 (.slice A N C) (l.flatMap ent)) (hw : ∀ x ∈ l, WfE x) :
    Calls Try.prog 5 #[.slice A N C] w fun e w' => e = .returned (.bool true) ∧ Fr (fun _ => False) w w' := by
  have hN : N = l.length := h.elen
  have HN := Lib.hid hN
  have HW := Lib.hid hw
  clear hN hw
  go_enter Try.func5, Try.ntmps5
  by_cases h2 : 100 < N
  · go_wp2_with fail
    refine (lives_any _).mono ?_
    rintro e w7 ⟨rfl, hf7⟩
    go_wp2
    go_ret
    exact ⟨rfl, hf7⟩
  have hN5 : N ≤ 100 := by omega
  go_wp2_with fail
  go_loopw [11] (fun v wr => ∃ i : Nat, i ≤ N ∧ v = .int .i64 i ∧ Fr (fun _ => False) w wr) (fun v _ => N - (intOf v).toNat)
  case atStart => exact ⟨0, by omega, rfl, Fr.refl _ _⟩
  case round =>
    obtain ⟨i, hi, rfl, hf⟩ := hrel
    by_cases hlt : i < N
    · obtain ⟨x, hx⟩ : ∃ x, l[i]? = some x := ⟨_, List.getElem?_eq_getElem (by have := HN.out; omega)⟩
      obtain ⟨g, off, n', cap', heq, hgl, -, c0, c1, c2, c3, c4, c5, c6, c7, c8, c9⟩ := (h.of hf (fun _ h => h.elim)).entry hx
      cases heq
      have HWX := Lib.hid (HW.out x (List.mem_of_getElem? hx))
      clear hx
      obtain ⟨gb, hgb⟩ : ∃ gb, gb = goodB x := ⟨_, rfl⟩
      have HGA := Lib.hid (fun W => good_any x HWX.out W)
      have HGB := Lib.hid (fun W => rgood_any x W)
      rw [← hgb] at HGA HGB
      clear hgb
      have key : ∀ w3, Fr (fun _ => False) (wr.alloc (.cells #[.int .i64 x.s, .int .i64 x.e, .int .i64 x.f, .int .i64 x.o, .bool x.sh, .int .i64 x.pr, .int .i64 x.mx, .int .i64 x.inh, .int .i64 x.adv, .bool x.wi] 27)).drew w3 → (w3.cell? ⟨wr.heap.size, 0, none⟩ = some (.int .i64 x.s) ∧ w3.cell? ⟨wr.heap.size, 1, none⟩ = some (.int .i64 x.e) ∧ w3.cell? ⟨wr.heap.size, 2, none⟩ = some (.int .i64 x.f) ∧ w3.cell? ⟨wr.heap.size, 3, none⟩ = some (.int .i64 x.o) ∧ w3.cell? ⟨wr.heap.size, 4, none⟩ = some (.bool x.sh) ∧ w3.cell? ⟨wr.heap.size, 5, none⟩ = some (.int .i64 x.pr) ∧ w3.cell? ⟨wr.heap.size, 6, none⟩ = some (.int .i64 x.mx) ∧ w3.cell? ⟨wr.heap.size, 7, none⟩ = some (.int .i64 x.inh) ∧ w3.cell? ⟨wr.heap.size, 8, none⟩ = some (.int .i64 x.adv) ∧ w3.cell? ⟨wr.heap.size, 9, none⟩ = some (.bool x.wi)) ∧ wr.heap.size < w3.heap.size ∧ Fr (fun _ => False) w w3 := fun w3 hf3 => by
        have o3 : ob w3 wr.heap.size = some (.cells #[.int .i64 x.s, .int .i64 x.e, .int .i64 x.f, .int .i64 x.o, .bool x.sh, .int .i64 x.pr, .int .i64 x.mx, .int .i64 x.inh, .int .i64 x.adv, .bool x.wi] 27 (0, 0)) := hf3.keep (fun h => h) (ob_new wr _)
        exact ⟨⟨cell_of_ob o3 0, cell_of_ob o3 1, cell_of_ob o3 2, cell_of_ob o3 3, cell_of_ob o3 4, cell_of_ob o3 5, cell_of_ob o3 6, cell_of_ob o3 7, cell_of_ob o3 8, cell_of_ob o3 9⟩, ob_lt o3, ((hf.alloc _).drew).also hf3⟩
      have hS0 := (key _ (Fr.refl _ _)).1
      have KEY := Lib.hid key
      clear key
      have hbl : wr.heap.size < wr.heap.size + 1 := Nat.lt_succ_self _
      go_wp2_with fail
      go_region_held3 (fun w' => (w'.cell? ⟨wr.heap.size, 0, none⟩ = some (.int .i64 x.s) ∧ w'.cell? ⟨wr.heap.size, 1, none⟩ = some (.int .i64 x.e) ∧ w'.cell? ⟨wr.heap.size, 2, none⟩ = some (.int .i64 x.f) ∧ w'.cell? ⟨wr.heap.size, 3, none⟩ = some (.int .i64 x.o) ∧ w'.cell? ⟨wr.heap.size, 4, none⟩ = some (.bool x.sh) ∧ w'.cell? ⟨wr.heap.size, 5, none⟩ = some (.int .i64 x.pr) ∧ w'.cell? ⟨wr.heap.size, 6, none⟩ = some (.int .i64 x.mx) ∧ w'.cell? ⟨wr.heap.size, 7, none⟩ = some (.int .i64 x.inh) ∧ w'.cell? ⟨wr.heap.size, 8, none⟩ = some (.int .i64 x.adv) ∧ w'.cell? ⟨wr.heap.size, 9, none⟩ = some (.bool x.wi))) (first | exact hS0 | assumption | go_keep)
        (first
          | (go_at_call 21; refine (HGA.out _).mono ?_; rintro e w3 ⟨rfl, hf3⟩; obtain ⟨hS2, hb3, hf4⟩ := KEY.out w3 hf3)
          | (go_at_call 22; refine (HGB.out _).mono ?_; rintro e w5 ⟨rfl, hf5⟩; obtain ⟨hS3, hb5, hf6⟩ := KEY.out w5 (hf3.also hf5)))
      go_wp2
      go_roundw
      case rel => exact ⟨i + 1, by omega, by go_num, hf6⟩
      case measure => simp [intOf]; omega
    · obtain rfl : i = N := by omega
      obtain ⟨rb, hrb⟩ : ∃ rb, rb = rightB 0 l := ⟨_, rfl⟩
      have h1 := h.of hf (fun _ h => h.elim)
      have HEA := Lib.hid (fun W (h : Rd W 10 (.slice A i C) (l.flatMap ent)) => eright_any h (by have := HN.out; omega) HW.out)
      have HEB := Lib.hid (fun W (h : Rd W 10 (.slice A i C) (l.flatMap ent)) => rright_any h (by have := HN.out; omega))
      rw [← hrb] at HEA HEB
      clear hrb
      go_wp2_with fail
      refine (HEA.out _ h1).mono ?_
      rintro e w2 ⟨rfl, hf2⟩
      go_wp2_with fail
      refine (HEB.out _ (h1.of hf2 (fun _ h => h.elim))).mono ?_
      rintro e w3 ⟨rfl, hf3⟩
      go_wp2_with fail
      refine (lives_any _).mono ?_
      rintro e w7 ⟨rfl, hf7⟩
      go_wp2
      go_ret
      exact ⟨rfl, ((hf.also hf2).also hf3).also hf7⟩
end Go.Proofs.Ytjgjgkcboigocaa
