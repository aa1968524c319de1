/- pantryref15.Find, from, Space, Whole; entry.Whole. Conditions: a right list of at most 500 entries. -/
import Derived.Test.YtopglbkcciigbaaEnRoom
namespace Go.Proofs.Ytopglbkcciigbaa
open Go.RowKit
set_option linter.unusedSimpArgs false
set_option linter.unusedVariables false
theorem ent_drop {l : List Ent} {i : Nat} {x : Ent} (hx : l[i]? = some x) : l.drop i = x :: l.drop (i + 1) := by
  have hi := (List.getElem?_eq_some_iff.1 hx).1
  have hx2 := (List.getElem?_eq_some_iff.1 hx).2
  rw [List.drop_eq_getElem_cons hi, hx2]
def fromF : List Ent → Int → Int → Int
  | [], p, _ => p
  | x :: l, p, n => if x.e ≤ p then fromF l p n else if p ≤ x.s - n then p else fromF l x.e n
theorem fromF_high {n : Int} : ∀ {l : List Ent} {p : Int}, rightB 0 l = true → (∀ x ∈ l, p < x.e) → fromF l p n = roomF l p n
  | [], p, _, _ => rfl
  | x :: l, p, h, hp => by
    rw [rightB_cons] at h
    have h1 := hp x (List.mem_cons_self ..)
    unfold fromF roomF
    rw [if_neg (by omega)]
    split
    · rfl
    · refine fromF_high (rightB_mono h.2.2 (by have := (goodE_of h.1).s0; have := (goodE_of h.1).se; omega)) (fun y hy => ?_)
      have := rightB_mem h.2.2 y hy
      have h2 := (goodE_of this.1).se
      omega
theorem fromF_room {p n : Int} : ∀ {l : List Ent}, rightB 0 l = true → fromF l p n = roomR l p n
  | [], _ => rfl
  | x :: l, h => by
    have h' := h
    rw [rightB_cons] at h
    have hr : rightB 0 l = true := rightB_mono h.2.2 (by have := (goodE_of h.1).s0; have := (goodE_of h.1).se; omega)
    by_cases hx : x.e ≤ p
    · have hfi : fidx (x :: l) p = fidx l p + 1 := by unfold fidx; rw [List.takeWhile_cons, if_pos (by simpa using hx)]; rfl
      have ih := fromF_room (p := p) (n := n) hr
      unfold roomR at ih ⊢
      rw [hfi, List.drop_succ_cons, ← ih]
      show (if x.e ≤ p then _ else _) = _
      rw [if_pos hx]
    · have hfi : fidx (x :: l) p = 0 := by unfold fidx; rw [List.takeWhile_cons, if_neg (by simpa using hx)]; rfl
      unfold roomR
      rw [hfi]
      refine fromF_high h' (fun y hy => ?_)
      rcases List.mem_cons.1 hy with rfl | hy
      · omega
      · have := rightB_mem h.2.2 y hy
        have h2 := (goodE_of this.1).se
        omega
theorem roomF_nonneg {n : Int} : ∀ {l : List Ent} {p : Int}, rightB 0 l = true → 0 ≤ p → 0 ≤ roomF l p n
  | [], p, _, hp => hp
  | x :: l, p, h, hp => by
    rw [rightB_cons] at h
    have := (goodE_of h.1).s0
    have := (goodE_of h.1).se
    unfold roomF
    split
    · exact hp
    · exact roomF_nonneg (rightB_mono h.2.2 (by omega)) (by omega)
theorem rightB_drop : ∀ {l : List Ent} (i : Nat), rightB 0 l = true → rightB 0 (l.drop i) = true
  | [], i, _ => by simp; rfl
  | x :: l, 0, h => h
  | x :: l, i + 1, h => by
    rw [rightB_cons] at h
    exact rightB_drop i (rightB_mono h.2.2 (by have := (goodE_of h.1).s0; have := (goodE_of h.1).se; omega))
def wholeW : List Ent → Int → Int → Bool
  | [], a, hi => decide (hi ≤ a)
  | x :: l, a, hi => if a < hi then (if a < x.s then false else wholeW l x.e hi) else true
def wholeR (l : List Ent) (a hi : Int) : Bool := wholeW (l.drop (fidx l a)) a hi
theorem wholeW_done {l : List Ent} {a hi : Int} (h : hi ≤ a) : wholeW l a hi = true := by
  cases l with
  | nil => exact decide_eq_true h
  | cons x l => show (if a < hi then _ else _) = true; rw [if_neg (by omega)]
theorem fidx_next {l : List Ent} (hr : rightB 0 l = true) {i : Nat} {x : Ent} (hx : l[i]? = some x) : fidx l x.e = i + 1 := by
  have hE := ends_of_right hr
  refine fidx_of l x.e (i + 1) (List.getElem?_eq_some_iff.1 hx).1 (fun t y ht hy => hE t i y x (by omega) hy hx) (fun y hy => ?_)
  have h1 := rightB_drop i hr
  rw [ent_drop hx, rightB_cons] at h1
  have hy2 : y ∈ l.drop (i + 1) := List.mem_of_getElem? (i := 0) (by rw [List.getElem?_drop]; exact hy)
  have h2 := rightB_mem h1.2.2 y hy2
  have := (goodE_of h2.1).se
  omega
set_option maxRecDepth 100000 in
set_option maxHeartbeats 4000000 in
theorem whole_any {w : World} {A : Option Addr} {N C : Nat} {l : List Ent} (h : Rd w 10 (.slice A N C) (l.flatMap ent)) (hl : l.length ≤ 500) (hr : rightB 0 l = true) (a hi : Int) :
    Calls Try.prog 13 #[.slice A N C, .int .i64 a, .int .i64 hi] w fun e w' => e = .returned (.bool (wholeR l a hi)) ∧ Fr (fun _ => False) w w' := by
  have hN : N = l.length := h.elen
  have hfd := find_any h (by omega) (ends_of_right hr) a
  rw [← hN] at hl
  obtain ⟨R, hR⟩ : ∃ R, R = wholeR l a hi := ⟨_, rfl⟩
  rw [← hR]
  have hfl := fidx_le l a
  rw [← hN] at hfl
  have hokn : fok l a = false → a < hi → R = false := fun hk hlt => by
    rw [hR]; unfold wholeR
    unfold fok at hk
    cases hx : l[fidx l a]? with
    | none =>
      rw [List.drop_of_length_le (by have := List.getElem?_eq_none_iff.1 hx; omega)]
      exact decide_eq_false (by omega)
    | some x =>
      rw [hx] at hk
      simp at hk
      rw [ent_drop hx]
      show (if a < hi then (if a < x.s then _ else _) else _) = _
      rw [if_pos hlt, if_pos hk]
  have hdone : hi ≤ a → R = true := fun hh => by rw [hR]; exact wholeW_done hh
  obtain ⟨i0, hi0⟩ : ∃ i, i = fidx l a := ⟨_, rfl⟩
  obtain ⟨ok, hok⟩ : ∃ ok, ok = fok l a := ⟨_, rfl⟩
  have hR0 : R = wholeW (l.drop i0) a hi := by rw [hR, hi0]; rfl
  rw [← hi0, ← hok] at hfd
  rw [← hi0] at hfl
  rw [← hok] at hokn
  have HN := Lib.hid hN
  have HOKN := Lib.hid hokn
  have HDONE := Lib.hid hdone
  clear hN hr hR hokn hdone hi0 hok
  go_enter Try.func13, Try.ntmps13
  go_wp2_with fail
  refine hfd.mono ?_
  rintro e w1 ⟨rfl, hf1⟩
  clear hfd
  cases ok with
  | false =>
    by_cases hlt : a < hi
    · obtain rfl := HOKN.out rfl hlt
      go_wp2_with fail
      go_loopw [1, 7] (fun sp v wr => sp = .int .i64 a ∧ v = .int .i64 i0 ∧ Fr (fun _ => False) w wr) (fun _ _ _ => 0)
      case atStart => exact ⟨rfl, rfl, hf1⟩
      case round =>
        obtain ⟨rfl, rfl, hf⟩ := hrel
        go_wp2
        all_goals (go_ret; exact ⟨rfl, hf⟩)
    · obtain rfl := HDONE.out (by omega)
      go_wp2_with fail
      go_loopw [1, 7] (fun sp v wr => sp = .int .i64 a ∧ v = .int .i64 i0 ∧ Fr (fun _ => False) w wr) (fun _ _ _ => 0)
      case atStart => exact ⟨rfl, rfl, hf1⟩
      case round =>
        obtain ⟨rfl, rfl, hf⟩ := hrel
        go_wp2
        all_goals (go_ret; exact ⟨rfl, hf⟩)
  | true =>
    go_wp2_with fail
    go_loopw [1, 7] (fun sp v wr => ∃ (i : Nat) (p : Int), i ≤ N ∧ v = .int .i64 i ∧ sp = .int .i64 p ∧ Hid (R = wholeW (l.drop i) p hi) ∧ Fr (fun _ => False) w wr) (fun _ v _ => N - (intOf v).toNat)
    case atStart => exact ⟨i0, a, hfl, rfl, rfl, Lib.hid hR0, hf1⟩
    case round =>
      obtain ⟨i, p, hiN, rfl, rfl, HRk, hf⟩ := hrel
      clear hR0
      by_cases hlt : p < hi
      · have h1 := h.of hf (fun _ h => h.elim)
        by_cases hin : i < N
        · obtain ⟨x, hx⟩ : ∃ x, l[i]? = some x := ⟨_, List.getElem?_eq_getElem (by have := HN.out; omega)⟩
          have hst : R = if p < x.s then false else wholeW (l.drop (i + 1)) x.e hi := by
            rw [HRk.out, ent_drop hx]
            show (if p < hi then _ else _) = _
            rw [if_pos hlt]
          obtain ⟨g', off', n', cap', heq, hgl, -, c0, c1, c2, c3, c4, c5, c6, c7, c8, c9⟩ := h1.entry hx
          cases heq
          have HST := Lib.hid hst
          clear hst hx h1
          by_cases hs : p < x.s
          · obtain rfl : R = false := by rw [HST.out, if_pos hs]
            go_wp2
            go_ret
            exact ⟨rfl, hf⟩
          · go_wp2
            go_roundw
            case rel => exact ⟨i + 1, x.e, by omega, by go_num, rfl, Lib.hid (by rw [HST.out, if_neg (by omega)]), hf⟩
            case measure => simp [intOf]; omega
        · obtain rfl : i = N := by omega
          obtain rfl : R = false := by
            rw [HRk.out, List.drop_of_length_le (by have := HN.out; omega)]
            exact decide_eq_false (by omega)
          clear h1
          go_wp2
          go_ret
          exact ⟨rfl, hf⟩
      · obtain rfl : R = true := by rw [HRk.out]; exact wholeW_done (by omega)
        go_wp2
        go_ret
        exact ⟨rfl, hf⟩
end Go.Proofs.Ytopglbkcciigbaa
