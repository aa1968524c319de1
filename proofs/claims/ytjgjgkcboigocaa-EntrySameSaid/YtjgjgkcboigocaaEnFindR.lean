/- pantryref15.Find, from, Space, Whole; entry.Whole. Conditions: a right list of at most 500 entries. -/
import Derived.Test.YtjgjgkcboigocaaEnRoom
namespace Go.Proofs.Ytjgjgkcboigocaa
open Go.RowKit
set_option linter.unusedSimpArgs false
set_option linter.unusedVariables false
theorem ent_drop {l : List Ent} {i : Nat} {x : Ent} (hx : l[i]? = some x) : l.drop i = x :: l.drop (i + 1) := by
  have hi := (List.getElem?_eq_some_iff.1 hx).1
  have hx2 := (List.getElem?_eq_some_iff.1 hx).2
  rw [List.drop_eq_getElem_cons hi, hx2]
set_option maxRecDepth 100000 in
set_option maxHeartbeats 4000000 in
theorem rfind_any {w : World} {A : Option Addr} {N C : Nat} {l : List Ent} (h : Rd w 10 (.slice A N C) (l.flatMap ent)) (hl : l.length ≤ 1000) (p : Int) :
    Calls Try.prog 16 #[.slice A N C, .int .i64 p] w fun e w' => e = .returned (.tuple #[.int .i64 (fidx l p), .bool (fok l p)]) ∧ Fr (fun _ => False) w w' := by
  have hN : N = l.length := h.elen
  have hN5 : N ≤ 1000 := by omega
  obtain ⟨fi, hfi⟩ : ∃ fi, fi = fidx l p := ⟨_, rfl⟩
  obtain ⟨ok, hok⟩ : ∃ ok, ok = fok l p := ⟨_, rfl⟩
  rw [← hfi, ← hok]
  have HN := Lib.hid hN
  have HFI := Lib.hid hfi
  have HOK := Lib.hid hok
  clear hN hl hfi hok
  go_enter Try.func16, Try.ntmps16
  go_wp2_with fail
  go_loopw [10] (fun v wr => ∃ i : Nat, i ≤ N ∧ v = .int .i64 i ∧ Hid (∀ t x, t < i → l[t]? = some x → x.e ≤ p) ∧ Fr (fun _ => False) w wr) (fun v _ => N - (intOf v).toNat)
  case atStart => exact ⟨0, by omega, rfl, Lib.hid (fun t x ht _ => absurd ht (Nat.not_lt_zero _)), Fr.refl _ _⟩
  case round =>
    obtain ⟨i, hi, rfl, HB, hf⟩ := hrel
    by_cases hlt : i < N
    · obtain ⟨x, hx⟩ : ∃ x, l[i]? = some x := ⟨_, List.getElem?_eq_getElem (by have := HN.out; omega)⟩
      obtain ⟨g, off, n', cap', heq, hgl, -, c0, c1, c2, c3, c4, c5, c6, c7, c8, c9⟩ := (h.of hf (fun _ h => h.elim)).entry hx
      cases heq
      have HX := Lib.hid hx
      clear hx
      by_cases hp : p < x.e
      · obtain rfl : fi = i := by
          rw [HFI.out]
          exact fidx_of l p i (by have := HN.out; omega) HB.out (fun y hy => by have := HX.out; rw [hy] at this; cases this; exact hp)
        obtain rfl : ok = decide (x.s ≤ p) := by
          rw [HOK.out]; unfold fok; rw [← HFI.out, HX.out]
        go_wp2_with fail
        go_region
        go_wp2_with fail
        go_ret2
        exact ⟨rfl, (hf.alloc _).drew⟩
      · go_wp2
        go_roundw
        case rel =>
          refine ⟨i + 1, by omega, by go_num, Lib.hid (fun t y ht hy => ?_), hf.alloc _⟩
          by_cases ht2 : t < i
          · exact HB.out t y ht2 hy
          · obtain rfl : t = i := by omega
            have := HX.out; rw [hy] at this; cases this; omega
        case measure => simp [intOf]; omega
    · obtain rfl : i = N := by omega
      have hnone : l[i]? = none := List.getElem?_eq_none (by have := HN.out; omega)
      obtain rfl : fi = i := by
        rw [HFI.out]
        exact fidx_of l p i (by have := HN.out; omega) HB.out (fun y hy => by rw [hnone] at hy; cases hy)
      obtain rfl : ok = false := by
        rw [HOK.out]; unfold fok; rw [← HFI.out, hnone]
      clear hnone
      go_wp2
      go_ret2
      exact ⟨rfl, hf⟩
def fromF : List Ent → Int → Int → Int
  | [], p, _ => p
  | x :: l, p, n => if x.e ≤ p then fromF l p n else if p ≤ x.s - n then p else fromF l x.e n
theorem fromF_high {n : Int} : ∀ {l : List Ent} {p : Int}, rightB 0 l = true → (∀ x ∈ l, p < x.e) → fromF l p n = roomF l p n
  | [], p, _, _ => rfl
  | x :: l, p, h, hp => by
    rw [rightB_cons] at h
    have h1 := hp x (List.mem_cons_self ..)
    unfold fromF roomF
    rw [if_neg (by omega)]
    split
    · rfl
    · refine fromF_high (rightB_mono h.2.2 (by have := (goodE_of h.1).s0; have := (goodE_of h.1).se; omega)) (fun y hy => ?_)
      have := rightB_mem h.2.2 y hy
      have h2 := (goodE_of this.1).se
      omega
theorem fromF_room {p n : Int} : ∀ {l : List Ent}, rightB 0 l = true → fromF l p n = roomR l p n
  | [], _ => rfl
  | x :: l, h => by
    have h' := h
    rw [rightB_cons] at h
    have hr : rightB 0 l = true := rightB_mono h.2.2 (by have := (goodE_of h.1).s0; have := (goodE_of h.1).se; omega)
    by_cases hx : x.e ≤ p
    · have hfi : fidx (x :: l) p = fidx l p + 1 := by unfold fidx; rw [List.takeWhile_cons, if_pos (by simpa using hx)]; rfl
      have ih := fromF_room (p := p) (n := n) hr
      unfold roomR at ih ⊢
      rw [hfi, List.drop_succ_cons, ← ih]
      show (if x.e ≤ p then _ else _) = _
      rw [if_pos hx]
    · have hfi : fidx (x :: l) p = 0 := by unfold fidx; rw [List.takeWhile_cons, if_neg (by simpa using hx)]; rfl
      unfold roomR
      rw [hfi]
      refine fromF_high h' (fun y hy => ?_)
      rcases List.mem_cons.1 hy with rfl | hy
      · omega
      · have := rightB_mem h.2.2 y hy
        have h2 := (goodE_of this.1).se
        omega
theorem roomF_nonneg {n : Int} : ∀ {l : List Ent} {p : Int}, rightB 0 l = true → 0 ≤ p → 0 ≤ roomF l p n
  | [], p, _, hp => hp
  | x :: l, p, h, hp => by
    rw [rightB_cons] at h
    have := (goodE_of h.1).s0
    have := (goodE_of h.1).se
    unfold roomF
    split
    · exact hp
    · exact roomF_nonneg (rightB_mono h.2.2 (by omega)) (by omega)
theorem rightB_drop : ∀ {l : List Ent} (i : Nat), rightB 0 l = true → rightB 0 (l.drop i) = true
  | [], i, _ => by simp; rfl
  | x :: l, 0, h => h
  | x :: l, i + 1, h => by
    rw [rightB_cons] at h
    exact rightB_drop i (rightB_mono h.2.2 (by have := (goodE_of h.1).s0; have := (goodE_of h.1).se; omega))
set_option maxRecDepth 100000 in
set_option maxHeartbeats 4000000 in
theorem from_any {w : World} {A : Option Addr} {N C : Nat} {l : List Ent} (h : Rd w 10 (.slice A N C) (l.flatMap ent)) (hl : l.length ≤ 500) (hr : rightB 0 l = true) (p n : Int) (hn : 1 ≤ n) (hn2 : n ≤ 67108864) :
    Calls Try.prog 38 #[.slice A N C, .int .i64 p, .int .i64 n] w fun e w' => e = .returned (.int .i64 (if roomR l p n ≤ 67108864 - n then roomR l p n else -1)) ∧ Fr (fun _ => False) w w' := by
  have hN : N = l.length := h.elen
  rw [← hN] at hl
  obtain ⟨R, hR⟩ : ∃ R, R = roomR l p n := ⟨_, rfl⟩
  have hR0 : R = fromF (l.drop 0) p n := by rw [hR]; exact (fromF_room hr).symm
  rw [← hR]
  have HN := Lib.hid hN
  have HR := Lib.hid hr
  clear hN hr hR
  go_enter Try.func38, Try.ntmps38
  go_wp2_with fail
  go_loopw [1, 11] (fun sp v wr => ∃ (k : Nat) (a : Int), k ≤ N ∧ v = .int .i64 k ∧ sp = .int .i64 a ∧ Hid (R = fromF (l.drop k) a n) ∧ Fr (fun _ => False) w wr) (fun _ v _ => N - (intOf v).toNat)
  case atStart => exact ⟨0, p, by omega, rfl, rfl, Lib.hid hR0, Fr.refl _ _⟩
  case round =>
    obtain ⟨k, a, hk, rfl, rfl, HRk, hf⟩ := hrel
    clear hR0
    by_cases hlt : k < N
    · obtain ⟨x, hx⟩ : ∃ x, l[k]? = some x := ⟨_, List.getElem?_eq_getElem (by have := HN.out; omega)⟩
      obtain ⟨g', off', n', cap', heq, hgl, -, c0, c1, c2, c3, c4, c5, c6, c7, c8, c9⟩ := (h.of hf (fun _ h => h.elim)).entry hx
      cases heq
      obtain ⟨g1, g2, g3, -, -, -, -⟩ := goodE_of (rightB_mem HR.out x (List.mem_of_getElem? hx)).1
      have HST := Lib.hid (ent_drop hx)
      clear hx
      by_cases hxe : x.e ≤ a
      · go_wp2
        go_roundw
        case rel =>
          refine ⟨k + 1, a, by omega, by go_num, rfl, Lib.hid ?_, hf.alloc _⟩
          rw [HRk.out, HST.out]
          show (if x.e ≤ a then _ else _) = _
          rw [if_pos hxe]
        case measure => simp [intOf]; omega
      by_cases hle : a ≤ x.s - n
      · have hRa : R = a := by
          rw [HRk.out, HST.out]
          show (if x.e ≤ a then _ else if a ≤ x.s - n then a else _) = _
          rw [if_neg hxe, if_pos hle]
        subst hRa
        by_cases hm : R ≤ 67108864 - n
        · go_wp2
          go_ret
          exact ⟨by first | rfl | (rw [if_pos (by omega)]; rfl) | (rw [if_neg (by omega)]; rfl), hf.alloc _⟩
        · omega
      · go_wp2
        go_roundw
        case rel =>
          refine ⟨k + 1, x.e, by omega, by go_num, rfl, Lib.hid ?_, hf.alloc _⟩
          rw [HRk.out, HST.out]
          show (if x.e ≤ a then _ else if a ≤ x.s - n then a else _) = _
          rw [if_neg hxe, if_neg hle]
        case measure => simp [intOf]; omega
    · obtain rfl : k = N := by omega
      have hRa : R = a := by rw [HRk.out, List.drop_of_length_le (by have := HN.out; omega)]; rfl
      subst hRa
      by_cases hm : R ≤ 67108864 - n
      · go_wp2
        go_ret
        exact ⟨by first | rfl | (rw [if_pos (by omega)]; rfl) | (rw [if_neg (by omega)]; rfl), hf⟩
      · go_wp2
        go_ret
        exact ⟨by first | rfl | (rw [if_pos (by omega)]; rfl) | (rw [if_neg (by omega)]; rfl), hf⟩
set_option maxRecDepth 100000 in
theorem rspace_any {w : World} {A : Option Addr} {N C : Nat} {l : List Ent} (h : Rd w 10 (.slice A N C) (l.flatMap ent)) (hl : l.length ≤ 500) (hr : rightB 0 l = true) (p n : Int) :
    Calls Try.prog 18 #[.slice A N C, .int .i64 p, .int .i64 n] w fun e w' => e = .returned (.tuple #[.int .i64 (spaceF l p n).1, .bool (spaceF l p n).2]) ∧ Fr (fun _ => False) w w' := by
  obtain ⟨r, hr0⟩ : ∃ r, r = spaceF l p n := ⟨_, rfl⟩
  rw [← hr0]
  have HR0 := Lib.hid hr0
  have HR := Lib.hid hr
  clear hr0 hr
  go_enter Try.func18, Try.ntmps18
  by_cases h1 : n < 1
  · obtain rfl : r = (0, false) := by rw [HR0.out]; unfold spaceF; rw [if_pos (.inl h1)]
    go_wp2
    go_ret2
    exact ⟨rfl, Fr.refl _ _⟩
  by_cases h2 : 67108864 < n
  · obtain rfl : r = (0, false) := by rw [HR0.out]; unfold spaceF; rw [if_pos (.inr h2)]
    go_wp2
    go_ret2
    exact ⟨rfl, Fr.refl _ _⟩
  have hn1 : 1 ≤ n := by omega
  have hn2 : n ≤ 67108864 := by omega
  obtain ⟨b, hb⟩ : ∃ b, b = roomR l 0 n := ⟨_, rfl⟩
  have hb0 : 0 ≤ b := by rw [hb]; exact roomF_nonneg (rightB_drop _ HR.out) (Int.le_refl _)
  have hrb := fun (W : World) (h : Rd W 10 (.slice A N C) (l.flatMap ent)) => from_any h hl HR.out 0 n hn1 hn2
  simp only [← hb] at hrb
  by_cases hp : p < 0
  · have hsp : r = if b ≤ 67108864 - n then (b, true) else (0, false) := by
      rw [HR0.out, hb]; unfold spaceF; rw [if_neg (by omega), show max p 0 = 0 by omega]
      split
      · rfl
      · rfl
    have HRB := Lib.hid hrb
    have HSP := Lib.hid hsp
    clear hrb hsp hb
    by_cases hbb : b ≤ 67108864 - n
    · obtain rfl : r = (b, true) := by rw [HSP.out, if_pos hbb]
      go_wp2_with fail
      refine (HRB.out _ h).mono ?_
      rw [if_pos hbb]
      rintro e w2 ⟨rfl, hf2⟩
      go_wp2
      go_ret2
      exact ⟨rfl, hf2⟩
    · obtain rfl : r = (0, false) := by rw [HSP.out, if_neg hbb]
      go_wp2_with fail
      refine (HRB.out _ h).mono ?_
      rw [if_neg (by omega)]
      rintro e w2 ⟨rfl, hf2⟩
      go_wp2
      go_ret2
      exact ⟨rfl, hf2⟩
  · obtain ⟨a, ha⟩ : ∃ a, a = roomR l p n := ⟨_, rfl⟩
    have ha0 : 0 ≤ a := by rw [ha]; exact roomF_nonneg (rightB_drop _ HR.out) (by omega)
    have hra := fun (W : World) (h : Rd W 10 (.slice A N C) (l.flatMap ent)) => from_any h hl HR.out p n hn1 hn2
    simp only [← ha] at hra
    have hsp : r = if a ≤ 67108864 - n then (a, true) else if b ≤ 67108864 - n then (b, true) else (0, false) := by
      rw [HR0.out, ha, hb]; unfold spaceF; rw [if_neg (by omega), show max p 0 = p by omega]
    have HRA := Lib.hid hra
    have HRB := Lib.hid hrb
    have HSP := Lib.hid hsp
    clear hrb hra hsp hb ha
    by_cases haa : a ≤ 67108864 - n
    · obtain rfl : r = (a, true) := by rw [HSP.out, if_pos haa]
      go_wp2_with fail
      refine (HRA.out _ h).mono ?_
      rw [if_pos haa]
      rintro e w2 ⟨rfl, hf2⟩
      go_wp2
      go_ret2
      exact ⟨rfl, hf2⟩
    by_cases hbb : b ≤ 67108864 - n
    · obtain rfl : r = (b, true) := by rw [HSP.out, if_neg haa, if_pos hbb]
      go_wp2_with fail
      refine (HRA.out _ h).mono ?_
      rw [if_neg (by omega)]
      rintro e w1 ⟨rfl, hf1⟩
      go_wp2_with fail
      refine (HRB.out _ (h.of hf1 (fun _ h => h.elim))).mono ?_
      rw [if_pos hbb]
      rintro e w2 ⟨rfl, hf2⟩
      go_wp2
      go_ret2
      exact ⟨rfl, hf1.also hf2⟩
    · obtain rfl : r = (0, false) := by rw [HSP.out, if_neg haa, if_neg hbb]
      go_wp2_with fail
      refine (HRA.out _ h).mono ?_
      rw [if_neg (by omega)]
      rintro e w1 ⟨rfl, hf1⟩
      go_wp2_with fail
      refine (HRB.out _ (h.of hf1 (fun _ h => h.elim))).mono ?_
      rw [if_neg (by omega)]
      rintro e w2 ⟨rfl, hf2⟩
      go_wp2
      go_ret2
      exact ⟨rfl, hf1.also hf2⟩
def wholeW : List Ent → Int → Int → Bool
  | [], a, hi => decide (hi ≤ a)
  | x :: l, a, hi => if a < hi then (if a < x.s then false else wholeW l x.e hi) else true
def wholeR (l : List Ent) (a hi : Int) : Bool := wholeW (l.drop (fidx l a)) a hi
theorem wholeW_done {l : List Ent} {a hi : Int} (h : hi ≤ a) : wholeW l a hi = true := by
  cases l with
  | nil => exact decide_eq_true h
  | cons x l => show (if a < hi then _ else _) = true; rw [if_neg (by omega)]
theorem fidx_next {l : List Ent} (hr : rightB 0 l = true) {i : Nat} {x : Ent} (hx : l[i]? = some x) : fidx l x.e = i + 1 := by
  have hE := ends_of_right hr
  refine fidx_of l x.e (i + 1) (List.getElem?_eq_some_iff.1 hx).1 (fun t y ht hy => hE t i y x (by omega) hy hx) (fun y hy => ?_)
  have h1 := rightB_drop i hr
  rw [ent_drop hx, rightB_cons] at h1
  have hy2 : y ∈ l.drop (i + 1) := List.mem_of_getElem? (i := 0) (by rw [List.getElem?_drop]; exact hy)
  have h2 := rightB_mem h1.2.2 y hy2
  have := (goodE_of h2.1).se
  omega
set_option maxRecDepth 100000 in
set_option maxHeartbeats 4000000 in
theorem rwhole_any {w : World} {A : Option Addr} {N C : Nat} {l : List Ent} (h : Rd w 10 (.slice A N C) (l.flatMap ent)) (hl : l.length ≤ 500) (hr : rightB 0 l = true) (a hi : Int) :
    Calls Try.prog 20 #[.slice A N C, .int .i64 a, .int .i64 hi] w fun e w' => e = .returned (.bool (wholeR l a hi)) ∧ Fr (fun _ => False) w w' := by
  have hN : N = l.length := h.elen
  rw [← hN] at hl
  obtain ⟨R, hR⟩ : ∃ R, R = wholeR l a hi := ⟨_, rfl⟩
  rw [← hR]
  have hR0 := hR
  have HN := Lib.hid hN
  have HR := Lib.hid hr
  have hfd := fun (W : World) (h : Rd W 10 (.slice A N C) (l.flatMap ent)) p => rfind_any h (by have := HN.out; omega) p
  have HFD := Lib.hid hfd
  clear hN hr hR hfd
  go_enter Try.func20, Try.ntmps20
  go_wp2_with fail
  go_loopw [1] (fun sp wr => ∃ (p : Int), sp = .int .i64 p ∧ Hid (R = wholeR l p hi) ∧ Fr (fun _ => False) w wr) (fun s _ => (hi - intOf s).toNat)
  case atStart => exact ⟨a, rfl, Lib.hid hR0, Fr.refl _ _⟩
  case round =>
    obtain ⟨p, rfl, HRk, hf⟩ := hrel
    clear hR0
    by_cases hlt : p < hi
    · have h1 := h.of hf (fun _ h => h.elim)
      go_wp2_with fail
      refine (HFD.out _ h1 p).mono ?_
      rintro e w1 ⟨rfl, hf1⟩
      have h2 := h1.of hf1 (fun _ h => h.elim)
      cases hx : l[fidx l p]? with
      | none =>
        obtain rfl : R = false := by
          rw [HRk.out]; unfold wholeR
          rw [List.drop_of_length_le (by have := List.getElem?_eq_none_iff.1 hx; omega)]
          exact decide_eq_false (by omega)
        rw [show fok l p = false by unfold fok; rw [hx]]
        clear h2 hx h1
        go_wp2
        go_ret
        exact ⟨rfl, hf.also hf1⟩
      | some x =>
        have hst : R = if p < x.s then false else wholeW (l.drop (fidx l p + 1)) x.e hi := by
          rw [HRk.out]; unfold wholeR
          rw [ent_drop hx]
          show (if p < hi then _ else _) = _
          rw [if_pos hlt]
        have hpe := fidx_at l p x hx
        rw [show fok l p = decide (x.s ≤ p) by unfold fok; rw [hx]]
        have hnx := fidx_next HR.out hx
        have hfl := (List.getElem?_eq_some_iff.1 hx).1
        rw [← HN.out] at hfl
        obtain ⟨i, hi0⟩ : ∃ i, i = fidx l p := ⟨_, rfl⟩
        rw [← hi0] at hst hnx hx hfl ⊢
        obtain ⟨g', off', n', cap', heq, hgl, -, c0, c1, c2, c3, c4, c5, c6, c7, c8, c9⟩ := h2.entry hx
        cases heq
        have HST := Lib.hid hst
        have HNX := Lib.hid hnx
        clear hst hnx hx h1 h2 hi0
        by_cases hs : p < x.s
        · obtain rfl : R = false := by rw [HST.out, if_pos hs]
          rw [show decide (x.s ≤ p) = false from decide_eq_false (by omega)]
          go_wp2
          go_ret
          exact ⟨rfl, hf.also hf1⟩
        · rw [show decide (x.s ≤ p) = true from decide_eq_true (by omega)]
          go_wp2
          go_roundw
          case rel => exact ⟨x.e, rfl, Lib.hid (by unfold wholeR; rw [HNX.out, HST.out, if_neg (by omega)]), hf.also hf1⟩
          case measure => simp [intOf]; omega
    · obtain rfl : R = true := by rw [HRk.out]; exact wholeW_done (by omega)
      go_wp2
      go_ret
      exact ⟨rfl, hf⟩
set_option maxRecDepth 100000 in
set_option maxHeartbeats 4000000 in
theorem whole_any {w : World} {A : Option Addr} {N C : Nat} {l : List Ent} (h : Rd w 10 (.slice A N C) (l.flatMap ent)) (hl : l.length ≤ 500) (hr : rightB 0 l = true) (a hi : Int) :
    Calls Try.prog 19 #[.slice A N C, .int .i64 a, .int .i64 hi] w fun e w' => e = .returned (.bool (wholeR l a hi)) ∧ Fr (fun _ => False) w w' := by
  have hN : N = l.length := h.elen
  have hfd := find_any h (by omega) (ends_of_right hr) a
  rw [← hN] at hl
  obtain ⟨R, hR⟩ : ∃ R, R = wholeR l a hi := ⟨_, rfl⟩
  rw [← hR]
  have hfl := fidx_le l a
  rw [← hN] at hfl
  have hokn : fok l a = false → a < hi → R = false := fun hk hlt => by
    rw [hR]; unfold wholeR
    unfold fok at hk
    cases hx : l[fidx l a]? with
    | none =>
      rw [List.drop_of_length_le (by have := List.getElem?_eq_none_iff.1 hx; omega)]
      exact decide_eq_false (by omega)
    | some x =>
      rw [hx] at hk
      simp at hk
      rw [ent_drop hx]
      show (if a < hi then (if a < x.s then _ else _) else _) = _
      rw [if_pos hlt, if_pos hk]
  have hdone : hi ≤ a → R = true := fun hh => by rw [hR]; exact wholeW_done hh
  obtain ⟨i0, hi0⟩ : ∃ i, i = fidx l a := ⟨_, rfl⟩
  obtain ⟨ok, hok⟩ : ∃ ok, ok = fok l a := ⟨_, rfl⟩
  have hR0 : R = wholeW (l.drop i0) a hi := by rw [hR, hi0]; rfl
  rw [← hi0, ← hok] at hfd
  rw [← hi0] at hfl
  rw [← hok] at hokn
  have HN := Lib.hid hN
  have HOKN := Lib.hid hokn
  have HDONE := Lib.hid hdone
  clear hN hr hR hokn hdone hi0 hok
  go_enter Try.func19, Try.ntmps19
  go_wp2_with fail
  refine hfd.mono ?_
  rintro e w1 ⟨rfl, hf1⟩
  clear hfd
  cases ok with
  | false =>
    by_cases hlt : a < hi
    · obtain rfl := HOKN.out rfl hlt
      go_wp2_with fail
      go_loopw [1, 7] (fun sp v wr => sp = .int .i64 a ∧ v = .int .i64 i0 ∧ Fr (fun _ => False) w wr) (fun _ _ _ => 0)
      case atStart => exact ⟨rfl, rfl, hf1⟩
      case round =>
        obtain ⟨rfl, rfl, hf⟩ := hrel
        go_wp2
        all_goals (go_ret; exact ⟨rfl, hf⟩)
    · obtain rfl := HDONE.out (by omega)
      go_wp2_with fail
      go_loopw [1, 7] (fun sp v wr => sp = .int .i64 a ∧ v = .int .i64 i0 ∧ Fr (fun _ => False) w wr) (fun _ _ _ => 0)
      case atStart => exact ⟨rfl, rfl, hf1⟩
      case round =>
        obtain ⟨rfl, rfl, hf⟩ := hrel
        go_wp2
        all_goals (go_ret; exact ⟨rfl, hf⟩)
  | true =>
    go_wp2_with fail
    go_loopw [1, 7] (fun sp v wr => ∃ (i : Nat) (p : Int), i ≤ N ∧ v = .int .i64 i ∧ sp = .int .i64 p ∧ Hid (R = wholeW (l.drop i) p hi) ∧ Fr (fun _ => False) w wr) (fun _ v _ => N - (intOf v).toNat)
    case atStart => exact ⟨i0, a, hfl, rfl, rfl, Lib.hid hR0, hf1⟩
    case round =>
      obtain ⟨i, p, hiN, rfl, rfl, HRk, hf⟩ := hrel
      clear hR0
      by_cases hlt : p < hi
      · have h1 := h.of hf (fun _ h => h.elim)
        by_cases hin : i < N
        · obtain ⟨x, hx⟩ : ∃ x, l[i]? = some x := ⟨_, List.getElem?_eq_getElem (by have := HN.out; omega)⟩
          have hst : R = if p < x.s then false else wholeW (l.drop (i + 1)) x.e hi := by
            rw [HRk.out, ent_drop hx]
            show (if p < hi then _ else _) = _
            rw [if_pos hlt]
          obtain ⟨g', off', n', cap', heq, hgl, -, c0, c1, c2, c3, c4, c5, c6, c7, c8, c9⟩ := h1.entry hx
          cases heq
          have HST := Lib.hid hst
          clear hst hx h1
          by_cases hs : p < x.s
          · obtain rfl : R = false := by rw [HST.out, if_pos hs]
            go_wp2
            go_ret
            exact ⟨rfl, hf⟩
          · go_wp2
            go_roundw
            case rel => exact ⟨i + 1, x.e, by omega, by go_num, rfl, Lib.hid (by rw [HST.out, if_neg (by omega)]), hf⟩
            case measure => simp [intOf]; omega
        · obtain rfl : i = N := by omega
          obtain rfl : R = false := by
            rw [HRk.out, List.drop_of_length_le (by have := HN.out; omega)]
            exact decide_eq_false (by omega)
          clear h1
          go_wp2
          go_ret
          exact ⟨rfl, hf⟩
      · obtain rfl : R = true := by rw [HRk.out]; exact wholeW_done (by omega)
        go_wp2
        go_ret
        exact ⟨rfl, hf⟩
end Go.Proofs.Ytjgjgkcboigocaa
