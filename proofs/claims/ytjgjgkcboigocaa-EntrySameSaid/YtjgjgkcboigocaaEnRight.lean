/- pantryref15.Right; pantrylaw15.right. Conditions: bounds on lengths. -/
import Derived.Test.YtjgjgkcboigocaaEnSame
namespace Go.Proofs.Ytjgjgkcboigocaa
open Go.RowKit
set_option linter.unusedSimpArgs false
set_option linter.unusedVariables false
def prevE (l : List Ent) : Nat → Int
  | 0 => 0
  | j + 1 => match l[j]? with | some x => x.e | none => 0
theorem rightB_step {last : Int} {x : Ent} {l : List Ent} {i : Nat} (hx : l[i]? = some x) : rightB last (l.drop i) = (goodB x && decide (last ≤ x.s) && rightB x.e (l.drop (i + 1))) := by
  have hi := (List.getElem?_eq_some_iff.1 hx).1
  have hx2 := (List.getElem?_eq_some_iff.1 hx).2
  rw [List.drop_eq_getElem_cons hi, hx2]
  rfl
set_option maxRecDepth 100000 in
set_option maxHeartbeats 4000000 in
theorem rright_any {w : World} {A : Option Addr} {N C : Nat} {l : List Ent} (h : Rd w 10 (.slice A N C) (l.flatMap ent)) (hl : l.length ≤ 1000) :
    Calls Try.prog 24 #[.slice A N C] w fun e w' => e = .returned (.bool (rightB 0 l)) ∧ Fr (fun _ => False) w w' := by
  have hN : N = l.length := h.elen
  have hN5 : N ≤ 1000 := by omega
  have HN := Lib.hid hN
  obtain ⟨r, hr⟩ : ∃ r, r = rightB 0 l := ⟨_, rfl⟩
  rw [← hr]
  have hr0 : r = rightB (prevE l 0) (l.drop 0) := hr
  clear hN hl hr
  go_enter Try.func24, Try.ntmps24
  go_wp2_with fail
  go_loopw [7] (fun v wr => ∃ i : Nat, i ≤ N ∧ v = .int .i64 i ∧ r = rightB (prevE l i) (l.drop i) ∧ Fr (fun _ => False) w wr) (fun v _ => N - (intOf v).toNat)
  case atStart => exact ⟨0, by omega, rfl, hr0, Fr.refl _ _⟩
  case round =>
    obtain ⟨i, hi, rfl, hr, hf⟩ := hrel
    have HR := Lib.hid hr
    clear hr hr0
    by_cases hlt : i < N
    · obtain ⟨x, hx⟩ : ∃ x, l[i]? = some x := ⟨_, List.getElem?_eq_getElem (by have := HN.out; omega)⟩
      obtain ⟨g, off, n', cap', heq, hgl, -, c0, c1, c2, c3, c4, c5, c6, c7, c8, c9⟩ := (h.of hf (fun _ h => h.elim)).entry hx
      cases heq
      have HST := Lib.hid (HR.out.trans (rightB_step hx))
      have hpe : prevE l (i + 1) = x.e := by show (match l[i]? with | some x => x.e | none => 0) = x.e; rw [hx]
      have HPE := Lib.hid hpe
      have HX := Lib.hid hx
      have hsg := (goodE_of (x := x))
      clear hx hpe
      have key : ∀ w3, Fr (fun _ => False) (wr.alloc (.cells #[.int .i64 x.s, .int .i64 x.e, .int .i64 x.f, .int .i64 x.o, .bool x.sh, .int .i64 x.pr, .int .i64 x.mx, .int .i64 x.inh, .int .i64 x.adv, .bool x.wi] 27)).drew w3 → At10 w3 wr.heap.size 0 x ∧ wr.heap.size < w3.heap.size ∧ Fr (fun _ => False) w w3 := fun w3 hf3 => by
        have o3 : ob w3 wr.heap.size = some (.cells #[.int .i64 x.s, .int .i64 x.e, .int .i64 x.f, .int .i64 x.o, .bool x.sh, .int .i64 x.pr, .int .i64 x.mx, .int .i64 x.inh, .int .i64 x.adv, .bool x.wi] 27 (0, 0)) := hf3.keep (fun h => h) (ob_new wr _)
        exact ⟨⟨cell_of_ob o3 0, cell_of_ob o3 1, cell_of_ob o3 2, cell_of_ob o3 3, cell_of_ob o3 4, cell_of_ob o3 5, cell_of_ob o3 6, cell_of_ob o3 7, cell_of_ob o3 8, cell_of_ob o3 9⟩, ob_lt o3, ((hf.alloc _).drew).also hf3⟩
      have KEY := Lib.hid key
      have HSG := Lib.hid hsg
      clear key hsg
      cases hgx : goodB x with
      | false =>
        obtain rfl : r = false := by have := HST.out; rw [hgx] at this; simpa using this
        go_wp2_with fail
        refine wp_region_canon [0, 1, 2, 3, 4, 5, 6, 7, 9, 10, 11, 12, 13, 8, 14, 15, 16, 17] (by kernel_rfl) (by kernel_rfl) (fun K hK => ?_)
        simp only [List.map_cons, List.map_nil, List.getD_cons_succ, List.getD_cons_zero]
        go_wp2_with fail
        refine (rgood_any x _).mono ?_
        rintro e w3 ⟨rfl, hf3⟩
        rw [hgx]
        obtain ⟨-, -, hf4⟩ := KEY.out w3 hf3
        clear hf3
        go_wp2
        refine hK _ _ (by kernel_rfl) ?_
        clear hK K
        go_wp2
        go_ret
        exact ⟨rfl, hf4⟩
      | true =>
        obtain ⟨s0, -, -, -, -, -, -⟩ := HSG.out hgx
        rw [hgx] at HST
        cases i with
        | zero =>
          simp only [Nat.zero_mul, Nat.add_zero] at c0 c1 c2 c3 c4 c5 c6 c7 c8 c9
          go_wp2_with fail
          refine wp_region_canon [0, 1, 2, 3, 4, 5, 6, 7, 9, 10, 11, 12, 13, 8, 14, 15, 16, 17] (by kernel_rfl) (by kernel_rfl) (fun K hK => ?_)
          simp only [List.map_cons, List.map_nil, List.getD_cons_succ, List.getD_cons_zero]
          go_wp2_with fail
          refine (rgood_any x _).mono ?_
          rintro e w3 ⟨rfl, hf3⟩
          rw [hgx]
          obtain ⟨-, -, hf4⟩ := KEY.out w3 hf3
          clear hf3
          go_wp2
          refine hK _ _ (by kernel_rfl) ?_
          clear hK K
          go_wp2
          go_roundw
          case rel =>
            refine ⟨1, by omega, by go_num, ?_, hf4⟩
            have h1 := HST.out
            rw [show prevE l 0 = 0 from rfl, decide_eq_true s0] at h1
            rw [h1]
            show _ = rightB (prevE l (0 + 1)) _
            rw [HPE.out]; simp
          case measure => simp [intOf]; omega
        | succ j =>
          obtain ⟨y, hy⟩ : ∃ y, l[j]? = some y := ⟨_, List.getElem?_eq_getElem (by have := HN.out; omega)⟩
          have hpy : prevE l (j + 1) = y.e := by show (match l[j]? with | some x => x.e | none => 0) = y.e; rw [hy]
          rw [hpy] at HST
          have HY := Lib.hid hy
          clear hy hpy
          have key2 : ∀ w3, Fr (fun _ => False) w w3 → w3.cell? ⟨g, off + j * 10 + 1, none⟩ = some (.int .i64 y.e) := fun w3 hf3 => by
            obtain ⟨g', off', n', cap', heq, hgl', -, d0, d1, -⟩ := (h.of hf3 (fun _ h => h.elim)).entry HY.out
            cases heq
            exact d1
          have KEY2 := Lib.hid key2
          clear key2
          by_cases hlty : x.s < y.e
          · obtain rfl : r = false := by have := HST.out; rw [decide_eq_false (by omega)] at this; simpa using this
            go_wp2_with fail
            refine wp_region_canon [0, 1, 2, 3, 4, 5, 6, 7, 9, 10, 11, 12, 13, 8, 14, 15, 16, 17] (by kernel_rfl) (by kernel_rfl) (fun K hK => ?_)
            simp only [List.map_cons, List.map_nil, List.getD_cons_succ, List.getD_cons_zero]
            go_wp2_with fail
            refine (rgood_any x _).mono ?_
            rintro e w3 ⟨rfl, hf3⟩
            rw [hgx]
            obtain ⟨⟨e0, e1, -⟩, hb3, hf4⟩ := KEY.out w3 hf3
            have d1 := KEY2.out w3 hf4
            clear hf3
            go_wp2
            refine hK _ _ (by kernel_rfl) ?_
            clear hK K
            go_wp2
            go_ret
            exact ⟨rfl, hf4⟩
          · go_wp2_with fail
            refine wp_region_canon [0, 1, 2, 3, 4, 5, 6, 7, 9, 10, 11, 12, 13, 8, 14, 15, 16, 17] (by kernel_rfl) (by kernel_rfl) (fun K hK => ?_)
            simp only [List.map_cons, List.map_nil, List.getD_cons_succ, List.getD_cons_zero]
            go_wp2_with fail
            refine (rgood_any x _).mono ?_
            rintro e w3 ⟨rfl, hf3⟩
            rw [hgx]
            obtain ⟨⟨e0, e1, -⟩, hb3, hf4⟩ := KEY.out w3 hf3
            have d1 := KEY2.out w3 hf4
            clear hf3
            go_wp2
            refine hK _ _ (by kernel_rfl) ?_
            clear hK K
            go_wp2
            go_roundw
            case rel =>
              refine ⟨j + 1 + 1, by omega, by go_num, ?_, hf4⟩
              have h1 := HST.out
              rw [decide_eq_true (by omega : y.e ≤ x.s)] at h1
              rw [h1, HPE.out]; simp
            case measure => simp [intOf]; omega
    · obtain rfl : i = N := by omega
      obtain rfl : r = true := by
        have := HR.out
        rw [List.drop_of_length_le (by rw [← HN.out]; exact Nat.le_refl _)] at this
        exact this
      go_wp2
      go_ret
      exact ⟨rfl, hf⟩
set_option maxRecDepth 100000 in
theorem right_any {w : World} {A : Option Addr} {N C : Nat} {l : List Ent} (h : Rd w 10 (.slice A N C) (l.flatMap ent)) :
    Calls Try.prog 11 #[.slice A N C] w fun e w' => e = .returned (.bool (decide (l.length ≤ 100) && rightB 0 l)) ∧ Fr (fun _ => False) w w' := by
  have hN : N = l.length := h.elen
  rw [← hN]
  have HN := Lib.hid hN
  clear hN
  go_enter Try.func11, Try.ntmps11
  by_cases hle : N ≤ 100
  · go_wp2_with fail
    refine (rright_any h (by have := HN.out; omega)).mono ?_
    rintro e w1 ⟨rfl, hf⟩
    go_wp2
    go_ret
    exact ⟨by simp [hle], hf⟩
  · go_wp2
    go_ret
    exact ⟨by simp [hle], Fr.refl _ _⟩
end Go.Proofs.Ytjgjgkcboigocaa
