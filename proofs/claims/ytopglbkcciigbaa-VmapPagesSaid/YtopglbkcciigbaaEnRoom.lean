/- entry.room and entry.Space. Conditions: a right list of at most 500 entries. -/
import Derived.Test.YtopglbkcciigbaaEnClipP
namespace Go.Proofs.Ytopglbkcciigbaa
open Go.RowKit
set_option linter.unusedSimpArgs false
set_option linter.unusedVariables false
def roomF : List Ent → Int → Int → Int
  | [], p, _ => p
  | x :: l, p, n => if p ≤ x.s - n then p else roomF l x.e n
def roomR (l : List Ent) (p n : Int) : Int := roomF (l.drop (fidx l p)) p n
def spaceF (l : List Ent) (p n : Int) : Int × Bool :=
  if n < 1 ∨ 67108864 < n then (0, false)
  else if roomR l (max p 0) n ≤ 67108864 - n then (roomR l (max p 0) n, true)
  else if roomR l 0 n ≤ 67108864 - n then (roomR l 0 n, true) else (0, false)
set_option maxRecDepth 100000 in
set_option maxHeartbeats 4000000 in
theorem room_any {w : World} {A : Option Addr} {N C : Nat} {l : List Ent} (h : Rd w 10 (.slice A N C) (l.flatMap ent)) (hl : l.length ≤ 500) (hr : rightB 0 l = true) (hC : N ≤ C ∧ C ≤ maxLen) (p n : Int) (hn : 1 ≤ n) (hn2 : n ≤ 67108864) :
    Calls Try.prog 49 #[.slice A N C, .int .i64 p, .int .i64 n] w fun e w' => e = .returned (.tuple #[.int .i64 (roomR l p n), .bool (decide (roomR l p n ≤ 67108864 - n))]) ∧ Fr (fun _ => False) w w' := by
  have hN : N = l.length := h.elen
  have hfa := find_any h (by omega) (ends_of_right hr) p
  have hfl := fidx_le l p
  obtain ⟨i, hi⟩ : ∃ i, i = fidx l p := ⟨_, rfl⟩
  obtain ⟨R, hR⟩ : ∃ R, R = roomR l p n := ⟨_, rfl⟩
  have hR0 : R = roomF (l.drop (i + 0)) p n := by rw [hR, hi]; rfl
  rw [← hi] at hfa hfl
  rw [← hR]
  rw [← hN] at hfl hl
  have HN := Lib.hid hN
  have HR := Lib.hid hr
  obtain ⟨hC1, hC2⟩ := hC
  have hC3 : C ≤ 9223372036854775807 := by simp only [maxLen] at hC2; omega
  obtain ⟨ok, hok⟩ : ∃ ok, ok = fok l p := ⟨_, rfl⟩
  rw [← hok] at hfa
  clear hN hr hi hR hC2 hok
  go_enter Try.func49, Try.ntmps49
  go_wp2_with fail
  refine hfa.mono ?_
  rintro e w1 ⟨rfl, hf1⟩
  clear hfa
  by_cases hiN : i = N
  · obtain rfl : R = p := by rw [hR0, List.drop_of_length_le (by have := HN.out; omega)]; rfl
    subst hiN
    clear hR0
    rcases id h with ⟨heq, -⟩ | ⟨⟨g, off, sp⟩, n', cap, heq, -, -⟩
    · cases heq
      go_wp2_with fail
      go_loopw [1, 22] (fun s1 v wr => s1 = .int .i64 R ∧ v = .int .i64 0 ∧ Fr (fun _ => False) w wr) (fun _ _ _ => 0)
      case atStart => exact ⟨rfl, rfl, hf1⟩
      case round =>
        obtain ⟨rfl, rfl, hf⟩ := hrel
        go_wp2
        go_ret2
        exact ⟨rfl, hf⟩
    · cases heq
      by_cases hcc : C = i
      · subst hcc
        go_wp2_with fail
        go_loopw [1, 22] (fun s1 v wr => s1 = .int .i64 R ∧ v = .int .i64 0 ∧ Fr (fun _ => False) w wr) (fun _ _ _ => 0)
        case atStart => exact ⟨rfl, rfl, hf1⟩
        case round =>
          obtain ⟨rfl, rfl, hf⟩ := hrel
          go_wp2
          go_ret2
          exact ⟨rfl, hf⟩
      · go_wp2_with fail
        go_loopw [1, 22] (fun s1 v wr => s1 = .int .i64 R ∧ v = .int .i64 0 ∧ Fr (fun _ => False) w wr) (fun _ _ _ => 0)
        case atStart => exact ⟨rfl, rfl, hf1⟩
        case round =>
          obtain ⟨rfl, rfl, hf⟩ := hrel
          go_wp2
          go_ret2
          exact ⟨rfl, hf⟩
  · have hilt : i < N := by omega
    have hci : ¬ (C = i) := by omega
    obtain ⟨x0, hx0⟩ : ∃ x, l[i]? = some x := ⟨_, List.getElem?_eq_getElem (by have := HN.out; omega)⟩
    obtain ⟨g, off, n', cap', heq, hgl0, -, -⟩ := h.entry hx0
    cases heq
    clear hx0
    go_wp2_with fail
    go_loopw [1, 22] (fun sp v wr => ∃ (k : Nat) (a : Int), k ≤ N - i ∧ v = .int .i64 k ∧ sp = .int .i64 a ∧ Hid (R = roomF (l.drop (i + k)) a n) ∧ Fr (fun _ => False) w wr) (fun _ v _ => N - (intOf v).toNat)
    case atStart => exact ⟨0, p, by omega, rfl, rfl, Lib.hid hR0, hf1⟩
    case round =>
      obtain ⟨k, a, hk, rfl, rfl, HRk, hf⟩ := hrel
      clear hR0
      by_cases hlt : k < N - i
      · obtain ⟨x, hx⟩ : ∃ x, l[i + k]? = some x := ⟨_, List.getElem?_eq_getElem (by have := HN.out; omega)⟩
        obtain ⟨g', off', n', cap', heq, hgl, -, hat⟩ := (h.of hf (fun _ h => h.elim)).entry hx
        cases heq
        rw [show off + (i + k) * 10 = off + i * 10 + k * 10 by omega] at hat
        obtain ⟨c0, c1, c2, c3, c4, c5, c6, c7, c8, c9⟩ := hat
        obtain ⟨g1, g2, g3, -, -, -, -⟩ := goodE_of (rightB_mem HR.out x (List.mem_of_getElem? hx)).1
        have hst : l.drop (i + k) = x :: l.drop (i + (k + 1)) := by
          have hi := (List.getElem?_eq_some_iff.1 hx).1
          have hx2 := (List.getElem?_eq_some_iff.1 hx).2
          rw [List.drop_eq_getElem_cons hi, hx2]; rfl
        have HST := Lib.hid hst
        clear hst hx
        by_cases hle : a ≤ x.s - n
        · obtain rfl : R = a := by rw [HRk.out, HST.out]; unfold roomF; rw [if_pos hle]
          go_wp2
          go_ret2
          exact ⟨rfl, hf.alloc _⟩
        · go_wp2
          go_roundw
          case rel =>
            refine ⟨k + 1, x.e, by omega, by go_num, rfl, Lib.hid ?_, hf.alloc _⟩
            rw [HRk.out, HST.out]
            show (if a ≤ x.s - n then a else _) = _
            rw [if_neg hle]
          case measure => simp [intOf]; omega
      · obtain rfl : k = N - i := by omega
        obtain rfl : R = a := by rw [HRk.out, List.drop_of_length_le (by have := HN.out; omega)]; rfl
        go_wp2
        go_ret2
        exact ⟨rfl, hf⟩
set_option maxRecDepth 100000 in
theorem space_any {w : World} {A : Option Addr} {N C : Nat} {l : List Ent} (h : Rd w 10 (.slice A N C) (l.flatMap ent)) (hl : l.length ≤ 500) (hr : rightB 0 l = true) (hC : N ≤ C ∧ C ≤ maxLen) (p n : Int) :
    Calls Try.prog 41 #[.slice A N C, .int .i64 p, .int .i64 n] w fun e w' => e = .returned (.tuple #[.int .i64 (spaceF l p n).1, .bool (spaceF l p n).2]) ∧ Fr (fun _ => False) w w' := by
  obtain ⟨r, hr0⟩ : ∃ r, r = spaceF l p n := ⟨_, rfl⟩
  rw [← hr0]
  have HR0 := Lib.hid hr0
  have HR := Lib.hid hr
  have HC := Lib.hid hC
  clear hr0 hr hC
  go_enter Try.func41, Try.ntmps41
  by_cases h1 : n < 1
  · obtain rfl : r = (0, false) := by rw [HR0.out]; unfold spaceF; rw [if_pos (.inl h1)]
    go_wp2
    go_ret2
    exact ⟨rfl, Fr.refl _ _⟩
  by_cases h2 : 67108864 < n
  · obtain rfl : r = (0, false) := by rw [HR0.out]; unfold spaceF; rw [if_pos (.inr h2)]
    go_wp2
    go_ret2
    exact ⟨rfl, Fr.refl _ _⟩
  have hn1 : 1 ≤ n := by omega
  have hn2 : n ≤ 67108864 := by omega
  obtain ⟨q, hq⟩ : ∃ q : Int, q = max p 0 := ⟨_, rfl⟩
  obtain ⟨a, ha⟩ : ∃ a, a = roomR l q n := ⟨_, rfl⟩
  obtain ⟨b, hb⟩ : ∃ b, b = roomR l 0 n := ⟨_, rfl⟩
  have hra := fun (W : World) (h : Rd W 10 (.slice A N C) (l.flatMap ent)) => room_any h hl HR.out HC.out q n hn1 hn2
  have hrb := fun (W : World) (h : Rd W 10 (.slice A N C) (l.flatMap ent)) => room_any h hl HR.out HC.out 0 n hn1 hn2
  simp only [← ha] at hra
  simp only [← hb] at hrb
  have hsp : r = if a ≤ 67108864 - n then (a, true) else if b ≤ 67108864 - n then (b, true) else (0, false) := by
    rw [HR0.out, ha, hb, hq]; unfold spaceF; rw [if_neg (by omega)]
  have HRA := Lib.hid hra
  have HRB := Lib.hid hrb
  have HSP := Lib.hid hsp
  have HQ := Lib.hid hq
  clear hra hrb hsp ha hb
  clear hq
  by_cases ha : a ≤ 67108864 - n
  · obtain rfl : r = (a, true) := by rw [HSP.out, if_pos ha]
    by_cases hp : p < 0
    · obtain rfl : q = 0 := by rw [HQ.out]; omega
      go_wp2_with fail
      refine (HRA.out _ h).mono ?_
      rintro e w1 ⟨rfl, hf1⟩
      go_wp2
      go_ret2
      exact ⟨rfl, hf1⟩
    · obtain rfl : q = p := by rw [HQ.out]; omega
      go_wp2_with fail
      refine (HRA.out _ h).mono ?_
      rintro e w1 ⟨rfl, hf1⟩
      go_wp2
      go_ret2
      exact ⟨rfl, hf1⟩
  by_cases hb : b ≤ 67108864 - n
  · obtain rfl : r = (b, true) := by rw [HSP.out, if_neg ha, if_pos hb]
    by_cases hp : p < 0
    · obtain rfl : q = 0 := by rw [HQ.out]; omega
      go_wp2_with fail
      refine (HRA.out _ h).mono ?_
      rintro e w1 ⟨rfl, hf1⟩
      go_wp2_with fail
      refine (HRB.out _ (h.of hf1 (fun _ h => h.elim))).mono ?_
      rintro e w2 ⟨rfl, hf2⟩
      go_wp2
      go_ret2
      exact ⟨rfl, hf1.also hf2⟩
    · obtain rfl : q = p := by rw [HQ.out]; omega
      go_wp2_with fail
      refine (HRA.out _ h).mono ?_
      rintro e w1 ⟨rfl, hf1⟩
      go_wp2_with fail
      refine (HRB.out _ (h.of hf1 (fun _ h => h.elim))).mono ?_
      rintro e w2 ⟨rfl, hf2⟩
      go_wp2
      go_ret2
      exact ⟨rfl, hf1.also hf2⟩
  · obtain rfl : r = (0, false) := by rw [HSP.out, if_neg ha, if_neg hb]
    by_cases hp : p < 0
    · obtain rfl : q = 0 := by rw [HQ.out]; omega
      go_wp2_with fail
      refine (HRA.out _ h).mono ?_
      rintro e w1 ⟨rfl, hf1⟩
      go_wp2_with fail
      refine (HRB.out _ (h.of hf1 (fun _ h => h.elim))).mono ?_
      rintro e w2 ⟨rfl, hf2⟩
      rw [show decide (b ≤ 67108864 - n) = false from decide_eq_false (by omega)]
      go_wp2
      go_ret2
      exact ⟨rfl, hf1.also hf2⟩
    · obtain rfl : q = p := by rw [HQ.out]; omega
      go_wp2_with fail
      refine (HRA.out _ h).mono ?_
      rintro e w1 ⟨rfl, hf1⟩
      go_wp2_with fail
      refine (HRB.out _ (h.of hf1 (fun _ h => h.elim))).mono ?_
      rintro e w2 ⟨rfl, hf2⟩
      rw [show decide (b ≤ 67108864 - n) = false from decide_eq_false (by omega)]
      go_wp2
      go_ret2
      exact ⟨rfl, hf1.also hf2⟩
end Go.Proofs.Ytopglbkcciigbaa
